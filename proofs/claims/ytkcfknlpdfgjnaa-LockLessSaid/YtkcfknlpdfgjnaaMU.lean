/- The law LockLess. -/
import Derived.Test.YtkcfknlpdfgjnaaMS
set_option linter.unusedVariables false
set_option linter.unusedSimpArgs false
set_option maxHeartbeats 4000000
set_option maxRecDepth 100000
namespace Go.Ab
open Go Go.Proofs

theorem raft_set {T : Tw} {i : Nat} {r : Int × Int} {x : Int} (h : i < T.length) : raft (T.set i r) x = if x.toNat = i then r else raft T x := by
  unfold raft
  rw [List.getD_eq_getElem?_getD, List.getD_eq_getElem?_getD, List.getElem?_set]
  by_cases hx : x.toNat = i
  · rw [if_pos hx.symm, if_pos hx, if_pos h]; rfl
  · rw [if_neg (fun e => hx e.symm), if_neg hx]
theorem TB.set {T : Tw} {i : Nat} {r : Int × Int} (hb : TB T) (hr : (0 ≤ r.1 ∧ r.1 ≤ 1000) ∧ 0 ≤ r.2 ∧ r.2 ≤ 1000) : TB (T.set i r) := by
  intro p hp
  rcases List.mem_or_eq_of_mem_set hp with h | h
  · exact hb p h
  · subst h; exact hr

theorem lockLess {T : Tw} {ft fb : Bool} {room : Int} {by_ : List Int} {w x y : Int} (hl : (T.length : Int) < 9223372036854775808) (hb : (by_.length : Int) < 9223372036854775808) (hb2 : ∀ x ∈ by_, 0 ≤ x ∧ x < 256) (hw0 : 0 ≤ w) (hw1 : w < 256) (hx0 : 0 ≤ x) (hx1 : x < 65536) (hy0 : 0 ≤ y) (hy1 : y < 65536) :
    FSpec Try.prog 11 [towV T ft room, slB by_ fb, .i .u8 w, .agg [.i .u16 x, .i .u16 y]] [] (.b true) [] := by
  refine fn11.spec0 mixed noIt_ok ?_
  rw [ic11]
  have hfi := fun σ => FSpec.frame (σ := σ) (fine40 (T := T) (ft := ft) (room := room) hl) (by simp) rfl
  refine ab_seq_k fun K1 h1 => ?_
  simp
  refine h1 _ _ _ ?_
  clear h1 K1
  refine ab_seq_k fun K2 h2 => ?_
  refine ab_seq_k fun K3 h3 => ?_
  simp [take_towC]
  refine callK_of (hfi _) ?_
  have hret : ∀ env σ, get env 41 = .b true → K3 (some 0) env σ := by
    intro env σ w
    refine h3 _ _ _ ?_
    refine ab_cond_of w (fun _ => ?_) (fun h => by cases h)
    refine ab_seq_k fun K4 h4 => ?_
    simp
    refine callK_of (wk _) ?_
    simp
    refine h4 _ _ _ ?_
    clear h4 K4
    simp
    exact fin_of 1 (by simp [rs11])
  by_cases hct0 : ¬ checkTow T room = 0
  · have hf : fineB T room = false := by simp [fineB, hct0]
    simp [hf]
    exact hret _ _ rfl
  replace hct0 : checkTow T room = 0 := Classical.not_not.1 hct0
  have hf : fineB T room = true := by simp [fineB, hct0]
  obtain ⟨n1, n7, tb, r0, r7⟩ := tow_len hct0
  by_cases hg1 : (T.length : Int) < 2
  · simp [hf, hg1, get0_towC]
    exact hret _ _ rfl
  by_cases hg2 : (20 : Int) < by_.length
  · simp [hf, hg1, hg2, get0_towC]
    exact hret _ _ rfl
  simp [hf, hg1, hg2, get0_towC]
  refine h3 _ _ _ ?_
  clear h3 hret K3
  refine ab_cond_of rfl (fun h => by cases h) (fun _ => ?_)
  simp
  refine h2 _ _ _ ?_
  clear h2 K2
  have hl9 : (T.length : Int) < 1000000000 := by omega
  have hgiv := orderBy_ord (by_ := by_) (n := T.length)
  obtain ⟨g1, g2, g3⟩ := isOrd_spec hgiv
  obtain ⟨i, hiw⟩ : ∃ i : Nat, (i : Int) = w % T.length := ⟨(w % T.length).toNat, by have := Int.emod_nonneg w (show (T.length : Int) ≠ 0 by omega); omega⟩
  have hil : i < T.length := by have := Int.emod_lt_of_pos w (show 0 < (T.length : Int) by omega); omega
  have hwi : w.tmod T.length = i := by rw [Int.tmod_eq_emod_of_nonneg hw0]; omega
  obtain ⟨p, hp⟩ : ∃ p, T[i]? = some p := ⟨_, List.getElem?_eq_getElem hil⟩
  obtain ⟨z1, z2, z3⟩ := lsV_get hp
  obtain ⟨⟨b1, b2⟩, b3, b4⟩ := tb p (List.mem_of_getElem? hp)
  have hm2 : min 2 (T.length * 2 - i * 2) = 2 := by omega
  have hle : i * 2 + 2 ≤ T.length * 2 := by omega
  have hne : ¬ T = [] := by rintro rfl; simp at hil
  have hxa : x.tmod 1001 = x % 1001 := Int.tmod_eq_emod_of_nonneg hx0
  have hya : y.tmod 1001 = y % 1001 := Int.tmod_eq_emod_of_nonneg hy0
  have hxb : 0 ≤ x % 1001 := by omega
  have hyb : 0 ≤ y % 1001 := by omega
  refine ab_seq_k fun K5 h5 => ?_
  simp [get0_towC, hwi, hne, wrap64 (x := w) (by omega) (by omega)]
  refine h5 _ _ _ ?_
  clear h5 K5
  refine ab_seq_k fun K6 h6 => ?_
  simp [get0_towC, z1, hm2, hle, hil]
  refine h6 _ _ _ ?_
  clear h6 K6
  refine ab_seq_k fun K7 h7 => ?_
  simp [hxa, wrap64 (x := x) (by omega) (by omega), wrap64 (x := p.1 - min p.1 (x % 1001)) (by omega) (by omega)]
  refine h7 _ _ _ ?_
  clear h7 K7
  refine ab_seq_k fun K8 h8 => ?_
  simp [hya, wrap64 (x := y) (by omega) (by omega), wrap64 (x := p.2 - min p.2 (y % 1001)) (by omega) (by omega)]
  refine h8 _ _ _ ?_
  clear h8 K8
  have hr1 : 0 ≤ p.1 - min p.1 (x % 1001) ∧ p.1 - min p.1 (x % 1001) ≤ p.1 := by omega
  have hr2 : 0 ≤ p.2 - min p.2 (y % 1001) ∧ p.2 - min p.2 (y % 1001) ≤ p.2 := by omega
  generalize p.1 - min p.1 (x % 1001) = q1 at *
  generalize p.2 - min p.2 (y % 1001) = q2 at *
  have G6 := fun σ => FSpec.frame (σ := σ) (order41 (T := T) (ft := ft) (fb := fb) (room := room) (by_ := by_) n1 n7 (by omega) (fun x hx => by have := hb2 x hx; omega)) (by simp) (by simp)
  have GW := fun σ => FSpec.frame (σ := σ) (with47 (T := T) (ft := ft) (room := room) (i := i) (r := (q1, q2)) n7 hil) (by simp) (by simp)
  refine ab_seq_k fun K9 h9 => ?_
  simp [take_towC]
  refine callK_of (G6 _) ?_
  simp [take_towC]
  refine h9 _ _ _ ?_
  clear h9 K9
  refine ab_seq_k fun K10 h10 => ?_
  simp [take_towC]
  refine callK_of (GW _) ?_
  simp [take_towC]
  refine h10 _ _ _ ?_
  clear h10 K10
  have hox : isOrd T.length (orderBy by_ T.length) = true := hgiv
  have hT1 : TB (T.set i (q1, q2)) := TB.set tb ⟨⟨by omega, by omega⟩, by omega, by omega⟩
  have hct1 : checkTow (T.set i (q1, q2)) room = 0 := check_ok hT1 (by simp; omega) (by simp; omega) r0 r7
  have hol := outT_len (T := T) hil
  have hct2 : checkTow (outT i T) room = 0 := check_ok (TB.out tb) (by omega) (by omega) r0 r7
  obtain ⟨a, b, -, -, -, hoo⟩ := order_out hgiv hil
  clear a b
  obtain ⟨o1, o2, o3⟩ := isOrd_spec hoo
  obtain ⟨R, hR⟩ : ∃ R : Nat, (R : Int) = room := ⟨room.toNat, by omega⟩
  have hls : ∀ x, (raft (T.set i (q1, q2)) x).1 ≤ (raft T x).1 ∧ (raft (T.set i (q1, q2)) x).2 ≤ (raft T x).2 := by
    intro x
    rw [raft_set hil]
    split
    · rename_i h
      have : raft T x = p := by unfold raft; rw [h, List.getD_eq_getElem?_getD, hp]; rfl
      rw [this]
      exact ⟨by simp only; omega, by simp only; omega⟩
    · exact ⟨Int.le_refl _, Int.le_refl _⟩
  have t1 := time_less (T := T) (r := room) (o := orderBy by_ T.length) hT1 r0 hls
  have t2 := best_less (T := T) (r := room) hT1 r0 (by simp) hls
  have t3 := time_out (R := R) tb hil hgiv
  have t4 := best_out (R := R) tb hil
  rw [hR] at t3 t4
  have G7 := fun σ => FSpec.frame (σ := σ) (time_ok (T := T) (ft := ft) (fo := false) (room := room) (o := orderBy by_ T.length) hl9 (by omega)) (by simp) (by simp [pairV])
  have G8 := fun σ => FSpec.frame (σ := σ) (time_ok (T := T.set i (q1, q2)) (ft := false) (fo := false) (room := room) (o := orderBy by_ T.length) (by rw [List.length_set]; exact hl9) (by omega)) (by simp) (by simp [pairV])
  have G9 := time_ok (T := outT i T) (ft := false) (fo := false) (room := room) (o := outO i (orderBy by_ T.length)) (by omega) (by omega)
  have htp : timeP T room (orderBy by_ T.length) = (timeR T room (orderBy by_ T.length), 0) := by simp [timeP, timeR, ordE, hct0, hgiv]
  have htp2 : timeP (T.set i (q1, q2)) room (orderBy by_ T.length) = (timeR (T.set i (q1, q2)) room (orderBy by_ T.length), 0) := by simp [timeP, timeR, ordE, hct1, hgiv]
  have htp3 : timeP (outT i T) room (outO i (orderBy by_ T.length)) = (timeR (outT i T) room (outO i (orderBy by_ T.length)), 0) := by simp [timeP, timeR, ordE, hct2, hol, hoo]
  rw [htp] at G7
  rw [htp2] at G8
  rw [htp3] at G9
  have GA := fun σ => FSpec.frame (σ := σ) (prgBest (T := T) (ft := ft) (room := room) hl9) (by simp) (by simp [pairV])
  have GB := fun σ => FSpec.frame (σ := σ) (prgBest (T := T.set i (q1, q2)) (ft := false) (room := room) (by rw [List.length_set]; exact hl9)) (by simp) (by simp [pairV])
  have GC := fun σ => FSpec.frame (σ := σ) (prgBest (T := outT i T) (ft := false) (room := room) (by omega)) (by simp) (by simp [pairV])
  have hbp : bestP T room = (bestT T room, 0) := by simp [bestP, hct0, bestT]
  have hbp2 : bestP (T.set i (q1, q2)) room = (bestT (T.set i (q1, q2)) room, 0) := by simp [bestP, hct1, bestT]
  have hbp3 : bestP (outT i T) room = (bestT (outT i T) room, 0) := by simp [bestP, hct2, bestT]
  rw [hbp] at GA
  rw [hbp2] at GB
  rw [hbp3] at GC
  generalize timeR T room (orderBy by_ T.length) = ta at *
  generalize timeR (T.set i (q1, q2)) room (orderBy by_ T.length) = tx at *
  generalize timeR (outT i T) room (outO i (orderBy by_ T.length)) = ty at *
  generalize bestT T room = ba at *
  generalize bestT (T.set i (q1, q2)) room = bx at *
  generalize bestT (outT i T) room = bz at *
  clear htp htp2 htp3 hbp hbp2 hbp3 hls hgiv
  generalize orderBy by_ T.length = o at *
  have hsetl : (T.set i (q1, q2)).length = T.length := List.length_set ..
  generalize T.set i (q1, q2) = TX at *
  refine ab_seq_k fun K11 h11 => ?_
  have hK : ∀ (b c ver : Nat) (g : List O), g[c]? = some (.row ver (lsV (outT i T))) → g[b]? = some (.row 0 [.s (4 + c) ver 0 (T.length - 1) 2, .i .i64 room]) →
      K11 (some 0) [(4, .p 0 0 0), (9, .i .i64 i), (11, sl o false), (12, .p 3 0 0), (13, .p (4 + b) 0 0)] ([O.row 0 (towC T ft room), O.row 0 [.i .u16 x, .i .u16 y], O.row 0 [.i .i64 q1, .i .i64 q2], O.row 0 (towC TX false room)] ++ g) := by
    intro b c ver g hc hb
    refine h11 _ _ _ ?_
    clear h11 K11
    have hpu : ∀ o ∈ [O.row 0 (towC T ft room), O.row 0 [.i .u16 x, .i .u16 y], O.row 0 [.i .i64 q1, .i .i64 q2], O.row 0 (towC TX false room)], PureO o := by
      intro o ho
      simp only [List.mem_cons, List.not_mem_nil, or_false] at ho
      rcases ho with rfl | rfl | rfl | rfl
      · exact pureO_row pure_towC
      · exact pureO_row (by simp)
      · exact pureO_row (by simp)
      · exact pureO_row pure_towC
    have hfs : frzS 4 4 ([O.row 0 (towC T ft room), O.row 0 [.i .u16 x, .i .u16 y], O.row 0 [.i .i64 q1, .i .i64 q2], O.row 0 (towC TX false room)] ++ g) = [O.row 0 (towC T ft room), O.row 0 [.i .u16 x, .i .u16 y], O.row 0 [.i .i64 q1, .i .i64 q2], O.row 0 (towC TX false room)] := frzS_pureL (k := 3) (g := g) hpu
    have hc' : ([O.row 0 (towC T ft room), O.row 0 [.i .u16 x, .i .u16 y], O.row 0 [.i .i64 q1, .i .i64 q2], O.row 0 (towC TX false room)] ++ g)[4 + c]? = some (.row ver (lsV (outT i T))) := by
      rw [List.getElem?_append_right (by simp)]; simpa using hc
    have hb' : ([O.row 0 (towC T ft room), O.row 0 [.i .u16 x, .i .u16 y], O.row 0 [.i .i64 q1, .i .i64 q2], O.row 0 (towC TX false room)] ++ g)[4 + b]? = some (.row 0 [.s (4 + c) ver 0 (T.length - 1) 2, .i .i64 room]) := by
      rw [List.getElem?_append_right (by simp)]; simpa using hb
    have hHl : 4 ≤ ([O.row 0 (towC T ft room), O.row 0 [.i .u16 x, .i .u16 y], O.row 0 [.i .i64 q1, .i .i64 q2], O.row 0 (towC TX false room)] ++ g).length := by simp
    have hz13 : frz 4 4 ([O.row 0 (towC T ft room), O.row 0 [.i .u16 x, .i .u16 y], O.row 0 [.i .i64 q1, .i .i64 q2], O.row 0 (towC TX false room)] ++ g) (.p (4 + b) 0 0) = .sp (towC (outT i T) false room) 0 := by
      have h1 := frz_row (k := 1) (n := 4) (m := T.length - 1) (es := 2) hc' (by omega) (by rw [lsV_len, hol]) pure_lsV
      generalize [O.row 0 (towC T ft room), O.row 0 [.i .u16 x, .i .u16 y], O.row 0 [.i .i64 q1, .i .i64 q2], O.row 0 (towC TX false room)] ++ g = U at *
      rw [frz]
      simp only [V.pure, Bool.false_eq_true, if_false, show ¬ 4 + b < 4 by omega, hb', if_true, List.map_cons, List.map_nil, h1]
      simp [towC, slL, hol]
    generalize hU : [O.row 0 (towC T ft room), O.row 0 [.i .u16 x, .i .u16 y], O.row 0 [.i .i64 q1, .i .i64 q2], O.row 0 (towC TX false room)] ++ g = U at *
    refine ab_seq_k fun K12 h12 => ?_
    simp
    refine h12 _ _ _ ?_
    clear h12 K12
    refine ab_seq_k fun K13 h13 => ?_
    refine ab_seq_k fun K14 h14 => ?_
    simp
    refine h14 _ _ _ ?_
    clear h14 K14
    refine ab_block_k fun K15 h15 => ?_
    refine ab_loop_f (fun m env σ => ∃ (k : Nat) (v : V), k + m = T.length ∧ env = [(4, .p 0 0 0), (9, .i .i64 i), (11, sl o false), (12, .p 3 0 0), (13, .sp (towC (outT i T) false room) 0), (14, v), (15, .i .i64 k)] ∧ σ[0]? = some (.row 0 (towC T ft room)) ∧ σ[3]? = some (.row 0 (towC TX false room)) ∧ Gr 4 1 σ v (outO i (o.take k)).length (ints (outO i (o.take k)))) T.length 4 4 (Nat.zero_le _) hHl ⟨0, .ss [] 0 true, by omega, ?_, ?_, ?_, by simpa [ints, outO] using Gr.nil⟩ ?_
    · have f0 : ∀ j, j < 4 → frz 4 4 U (.p j 0 0) = .p j 0 0 := by intro j hj; rw [frz]; simp [hj]
      have fi : ∀ k n, frz 4 4 U (.i k n) = .i k n := fun _ _ => frz_pure rfl
      have fo : frz 4 4 U (sl o false) = sl o false := frz_pure (by simp)
      have fn : frz 4 4 U (.ss [] 0 true) = .ss [] 0 true := frz_pure rfl
      simp only [frzE, List.map_cons, List.map_nil, f0 0 (by omega), f0 3 (by omega), fi, fo, fn, hz13]
      simp
    · rw [hfs]; rfl
    · rw [hfs]; rfl
    · clear hz13 hHl hb' hc' hfs hpu hU hc hb
      clear U g
      rintro m env σ ⟨k, v, hk, rfl, s0, s3, hv⟩ K16 h16
      have hσ4 : 4 ≤ σ.length := by have := (List.getElem?_eq_some_iff.1 s3).1; omega
      rw [ic11_0]
      refine ab_seq_k fun K17 h17 => ?_
      refine ab_seq_k fun K18 h18 => ?_
      simp [g1]
      refine h18 _ _ _ ?_
      clear h18 K18
      refine ab_cond_of rfl (fun hc => ?_) (fun hc => ?_)
      · have hkl : k < T.length := by have := of_decide_eq_true hc; omega
        have hx' := o_some (o := o) (j := k) (by omega)
        have htk : outO i (o.take (k + 1)) = outO i (o.take k) ++ (if o.getD k 0 < (i : Int) then [o.getD k 0] else if (i : Int) < o.getD k 0 then [o.getD k 0 - 1] else []) := by
          rw [List.take_add_one, hx']; exact outO_snoc
        have hvl : (outO i (o.take k)).length ≤ k := by
          have : ∀ l : List Int, (outO i l).length ≤ l.length := by
            intro l
            induction l with
            | nil => exact Nat.le_refl _
            | cons z l ih =>
              have e : outO i (z :: l) = (if z < (i : Int) then [z] else if (i : Int) < z then [z - 1] else []) ++ outO i l := rfl
              rw [e, List.length_append, List.length_cons]
              have : (if z < (i : Int) then [z] else if (i : Int) < z then [z - 1] else []).length ≤ 1 := by split <;> (try split) <;> simp
              omega
          have := this (o.take k)
          rw [List.length_take] at this
          omega
        generalize o.getD k 0 = z at *
        obtain ⟨hz0, hz1⟩ := g2 _ (List.mem_of_getElem? hx')
        obtain ⟨hxl, hx4⟩ := List.getElem?_eq_some_iff.1 hx'
        simp
        refine h17 _ _ _ ?_
        clear h17 K17
        refine ab_seq_k fun K19 h19 => ?_
        refine ab_block_k fun K20 h20 => ?_
        have hend : ∀ env σ' v', get env 4 = .p 0 0 0 → get env 9 = .i .i64 i → get env 11 = sl o false → get env 12 = .p 3 0 0 → get env 13 = .sp (towC (outT i T) false room) 0 → get env 14 = v' → get env 15 = .i .i64 k → σ'[0]? = some (.row 0 (towC T ft room)) → σ'[3]? = some (.row 0 (towC TX false room)) → Gr 4 1 σ' v' (outO i (o.take (k + 1))).length (ints (outO i (o.take (k + 1)))) → K20 (some 0) env σ' := by
          intro env σ' v' w4 w9 w11 w12 w13 w14 w15 u0 u3 uv
          refine h20 _ _ _ ?_
          refine h19 _ _ _ ?_
          simp [w4, w9, w11, w12, w13, w14, w15, wrap64 (x := (k : Int) + 1) (by omega) (by omega)]
          exact h16 _ _ _ (again (m - 1) (by omega) ⟨k + 1, v', by omega, by simp, u0, u3, uv⟩)
        clear h19 h20
        refine ab_seq_k fun K21 h21 => ?_
        refine ab_seq_k fun K22 h22 => ?_
        simp [hx', hx4, hxl]
        refine h22 _ _ _ ?_
        clear h22 K22
        refine ab_cond_of rfl (fun hc2 => ?_) (fun hc2 => ?_)
        · have hzi : z < (i : Int) := of_decide_eq_true hc2
          rw [if_pos hzi] at htk
          have hzi2 : ¬ (i : Int) < z := by omega
          simp [hx', hx4, hxl]
          refine appG hv hσ4 (by omega) (by simp) rfl ?_
          intro v' σ' hg1 hg2
          have e : ints (outO i (o.take k)) ++ [V.i IntKind.i64 z] = ints (outO i (o.take (k + 1))) := by rw [htk]; simp [ints]
          rw [e, show (outO i (o.take k)).length + 1 = (outO i (o.take (k + 1))).length by rw [htk]; simp] at hg1
          simp
          refine h21 _ _ _ ?_
          clear h21 K21
          refine ab_seq_k fun K23 h23 => ?_
          simp [hx', hx4, hxl, hzi2]
          refine h23 _ _ _ ?_
          refine ab_cond_of rfl (fun h => by cases h) (fun _ => ?_)
          simp
          exact hend _ _ _ rfl rfl rfl rfl rfl rfl rfl (by rw [hg2.lt hv (by omega) hσ4]; exact s0) (by rw [hg2.lt hv (by omega) hσ4]; exact s3) hg1
        · have hzi : ¬ z < (i : Int) := of_decide_eq_false hc2
          rw [if_neg hzi] at htk
          simp
          refine h21 _ _ _ ?_
          clear h21 K21
          refine ab_seq_k fun K23 h23 => ?_
          simp [hx', hx4, hxl]
          refine h23 _ _ _ ?_
          clear h23 K23
          refine ab_cond_of rfl (fun hc3 => ?_) (fun hc3 => ?_)
          · have hzi2 : (i : Int) < z := of_decide_eq_true hc3
            rw [if_pos hzi2] at htk
            simp [hx', hx4, hxl, wrap64 (x := z - 1) (by omega) (by omega)]
            refine appG hv hσ4 (by omega) (by simp) rfl ?_
            intro v' σ' hg1 hg2
            have e : ints (outO i (o.take k)) ++ [V.i IntKind.i64 (z - 1)] = ints (outO i (o.take (k + 1))) := by rw [htk]; simp [ints]
            rw [e, show (outO i (o.take k)).length + 1 = (outO i (o.take (k + 1))).length by rw [htk]; simp] at hg1
            simp
            exact hend _ _ _ rfl rfl rfl rfl rfl rfl rfl (by rw [hg2.lt hv (by omega) hσ4]; exact s0) (by rw [hg2.lt hv (by omega) hσ4]; exact s3) hg1
          · have hzi2 : ¬ (i : Int) < z := of_decide_eq_false hc3
            rw [if_neg hzi2, List.append_nil] at htk
            rw [← htk] at hv
            simp
            exact hend _ _ _ rfl rfl rfl rfl rfl rfl rfl s0 s3 hv
      · have hkl : k = T.length := by have := of_decide_eq_false hc; omega
        subst hkl
        have hto : o.take T.length = o := List.take_of_length_le (by omega)
        rw [hto] at hv
        have hfz : frz 2 0 σ v = sl (outO i o) false := by
          have h := frz_G hv pure_ints
          have : ((outO i o).length == 0) = false := by rw [o1, beq_eq_false_iff_ne]; omega
          rw [h, this]
        obtain ⟨hs0, s0'⟩ := List.getElem?_eq_some_iff.1 s0
        obtain ⟨hs3, s3'⟩ := List.getElem?_eq_some_iff.1 s3
        have GF : FSpec Try.prog 19 [towV (outT i T) false room, v] σ (pairV (ty, 0)) σ := by
          refine FSpec.frozen 2 ?_ rfl
          have h1 : frz 2 0 σ (towV (outT i T) false room) = towV (outT i T) false room := frz_pure (by simp)
          simp only [List.map_cons, List.map_nil, hfz, h1]
          exact G9
        simp
        refine h15 _ _ _ ?_
        refine h13 _ _ _ ?_
        clear h13 h15 h16 h17
        refine ab_seq_k fun K24 h24 => ?_
        simp [s0, s0', take_towC, pairV]
        refine callK_of (G7 _) ?_
        simp [s0, s0', take_towC, pairV]
        refine h24 _ _ _ ?_
        clear h24 K24
        refine ab_seq_k fun K25 h25 => ?_
        simp [s3, s3', take_towC, pairV]
        refine callK_of (G8 _) ?_
        simp [s3, s3', take_towC, pairV]
        refine h25 _ _ _ ?_
        clear h25 K25
        refine ab_seq_k fun K26 h26 => ?_
        simp [take_towC, pairV]
        refine callK_of (GF) ?_
        simp [take_towC, pairV]
        refine h26 _ _ _ ?_
        clear h26 K26
        refine ab_seq_k fun K27 h27 => ?_
        simp [s0, s0', take_towC, pairV]
        refine callK_of (GA _) ?_
        simp [s0, s0', take_towC, pairV]
        refine h27 _ _ _ ?_
        clear h27 K27
        refine ab_seq_k fun K28 h28 => ?_
        simp [s3, s3', take_towC, pairV]
        refine callK_of (GB _) ?_
        simp [s3, s3', take_towC, pairV]
        refine h28 _ _ _ ?_
        clear h28 K28
        refine ab_seq_k fun K29 h29 => ?_
        simp [take_towC, pairV]
        refine callK_of (GC _) ?_
        simp [take_towC, pairV]
        refine h29 _ _ _ ?_
        clear h29 K29
        refine ab_seq_k fun K30 h30 => ?_
        simp [t1, t2, t3, t4]
        refine callK_of (wk _) ?_
        simp [t1, t2, t3, t4]
        refine h30 _ _ _ ?_
        clear h30 K30
        simp
        exact fin_of 1 (by simp [rs11])
  simp only [ab_alt_two, ab_alt_one]
  have hn10 : ¬ T.length - 1 = 0 := by omega
  have hA : ∀ j, j ≤ T.length → List.take (j * 2) (lsV T) = lsV (T.take j) := by
    intro j hj
    conv => lhs; rw [← List.take_append_drop j T, lsV_append]
    rw [List.take_left' (by rw [lsV_len, List.length_take]; omega)]
  have hB : ∀ j, j ≤ T.length → List.take ((T.length - j) * 2) (List.drop (j * 2) (lsV T)) = lsV (T.drop j) := by
    intro j hj
    rw [lsV_drop, List.take_of_length_le (by rw [lsV_len, List.length_drop]; omega)]
  have hrow0 : List.take ((T.length - 1) * 2) (List.drop 2 (lsV T)) = lsV (outT 0 T) := by
    have := hB 1 (by omega)
    rw [Nat.one_mul] at this
    rw [this]; simp [outT]
  have hrowB : List.take (i * 2) (lsV T) ++ List.take ((T.length - (i + 1)) * 2) (List.drop ((i + 1) * 2) (lsV T)) = lsV (outT i T) := by
    rw [hA i (by omega), hB (i + 1) (by omega), ← lsV_append]; rfl
  have hrowA : T.length - (i + 1) = 0 → List.take (i * 2) (lsV T) = lsV (outT i T) := by
    intro h
    rw [hA i (by omega)]
    have : T.drop (i + 1) = [] := List.eq_nil_of_length_eq_zero (by rw [List.length_drop]; omega)
    simp [outT, this]
  refine ⟨?_, ?_, ?_⟩
  · by_cases hi0 : i = 0
    · subst hi0
      simp [abDs_consU, drU, recheck_cons, recheck_nil, rcK, IS.dst, get0_towC, get1_towC, wrap64 (x := 1) (by omega) (by omega), hn10]
      repeat (refine And.intro (by omega) ?_)
      rw [hrow0]
      exact hK 1 0 0 [_, _] rfl rfl
    · by_cases hin : T.length - (i + 1) = 0
      · simp [abDs_consU, drU, recheck_cons, recheck_nil, rcK, IS.dst, get0_towC, get1_towC, wrap64 (x := (i : Int) + 1) (by omega) (by omega), hi0, hin]
        repeat (refine And.intro (by omega) ?_)
        rw [hrowA hin]
        rw [show T.length - 1 = i by omega] at hK
        exact hK 1 0 0 [_, _] rfl rfl
      · simp [abDs_consU, drU, recheck_cons, recheck_nil, rcK, IS.dst, get0_towC, get1_towC, wrap64 (x := (i : Int) + 1) (by omega) (by omega), hi0, hin]
        repeat (refine And.intro (by omega) ?_)
        rw [hrowB, show i + (T.length - (i + 1)) = T.length - 1 by omega]
        exact hK 1 0 1 [_, _] rfl rfl
  · by_cases hi0 : i = 0
    · subst hi0
      simp [abDs_consU, drU, recheck_cons, recheck_nil, rcK, IS.dst, get0_towC, get1_towC, wrap64 (x := 1) (by omega) (by omega), hn10]
      repeat (refine And.intro (by omega) ?_)
      rw [hrow0]
      exact hK 0 1 0 [_, _] rfl rfl
    · by_cases hin : T.length - (i + 1) = 0
      · simp [abDs_consU, drU, recheck_cons, recheck_nil, rcK, IS.dst, get0_towC, get1_towC, wrap64 (x := (i : Int) + 1) (by omega) (by omega), hi0, hin]
        repeat (refine And.intro (by omega) ?_)
        rw [hrowA hin]
        rw [show T.length - 1 = i by omega] at hK
        exact hK 1 0 0 [_, _] rfl rfl
      · simp [abDs_consU, drU, recheck_cons, recheck_nil, rcK, IS.dst, get0_towC, get1_towC, wrap64 (x := (i : Int) + 1) (by omega) (by omega), hi0, hin]
        repeat (refine And.intro (by omega) ?_)
        rw [hrowB, show i + (T.length - (i + 1)) = T.length - 1 by omega]
        exact hK 1 0 1 [_, _] rfl rfl
  · by_cases hi0 : i = 0
    · subst hi0
      simp [abDs_consU, drU, recheck_cons, recheck_nil, rcK, IS.dst, get0_towC, get1_towC, wrap64 (x := 1) (by omega) (by omega), hn10]
      repeat (refine And.intro (by omega) ?_)
      rw [hrow0]
      exact hK 0 1 0 [_, _] rfl rfl
    · by_cases hin : T.length - (i + 1) = 0
      · simp [abDs_consU, drU, recheck_cons, recheck_nil, rcK, IS.dst, get0_towC, get1_towC, wrap64 (x := (i : Int) + 1) (by omega) (by omega), hi0, hin]
        repeat (refine And.intro (by omega) ?_)
        rw [hrowA hin]
        rw [show T.length - 1 = i by omega] at hK
        exact hK 0 1 0 [_, _] rfl rfl
      · simp [abDs_consU, drU, recheck_cons, recheck_nil, rcK, IS.dst, get0_towC, get1_towC, wrap64 (x := (i : Int) + 1) (by omega) (by omega), hi0, hin]
        repeat (refine And.intro (by omega) ?_)
        rw [hrowB, show i + (T.length - (i + 1)) = T.length - 1 by omega]
        exact hK 0 1 1 [_, _] rfl rfl
end Go.Ab
