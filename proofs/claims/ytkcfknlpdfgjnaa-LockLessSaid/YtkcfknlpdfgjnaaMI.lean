/- The law LockSteps: the walk. -/
import Derived.Test.YtkcfknlpdfgjnaaMH
set_option linter.unusedVariables false
set_option linter.unusedSimpArgs false
set_option maxHeartbeats 4000000
set_option maxRecDepth 100000
namespace Go.Ab
open Go Go.Proofs

theorem raft_b {T : Tw} {o : List Int} (hb : TB T) (hox : ∀ x ∈ o, 0 ≤ x ∧ x < (T.length : Int)) {i : Nat} (hi : i < o.length) : (0 ≤ (raft T (o.getD i 0)).1 ∧ (raft T (o.getD i 0)).1 ≤ 1000) ∧ 0 ≤ (raft T (o.getD i 0)).2 ∧ (raft T (o.getD i 0)).2 ≤ 1000 := by
  have hx : o[i]? = some (o.getD i 0) := by simp [List.getD_eq_getElem?_getD, List.getElem?_eq_getElem hi]
  obtain ⟨h0, h1⟩ := hox _ (List.mem_of_getElem? hx)
  exact hb _ (raft_get h0 h1).2
theorem hS_b {T : Tw} {o : List Int} (hb : TB T) (hox : ∀ x ∈ o, 0 ≤ x ∧ x < (T.length : Int)) : ∀ {i : Nat}, i < o.length → 0 ≤ hS T o (i + 1) ∧ hS T o (i + 1) ≤ 1000 * (i + 1)
  | 0, h => by
    have := raft_b hb hox h
    have e : hS T o (0 + 1) = (raft T (o.getD 0 0)).1 := rfl
    rw [e]; omega
  | i + 1, h => by
    have ih := hS_b hb hox (i := i) (by omega)
    have h1 := raft_b hb hox h
    have h2 := raft_b hb hox (show i < o.length by omega)
    have e : hS T o (i + 1 + 1) = hS T o (i + 1) + max (raft T (o.getD i 0)).2 (raft T (o.getD (i + 1) 0)).1 := rfl
    rw [e]; omega

theorem o_some {o : List Int} {j : Nat} (h : j < o.length) : o[j]? = some (o.getD j 0) := by simp [List.getD_eq_getElem?_getD, List.getElem?_eq_getElem h]
theorem lockSteps {T : Tw} {ft fb : Bool} {room : Int} {by_ : List Int} (hl : (T.length : Int) < 9223372036854775808) (hb : (by_.length : Int) < 9223372036854775808) (hb2 : ∀ x ∈ by_, 0 ≤ x ∧ x < 256) :
    FSpec Try.prog 13 [towV T ft room, slB by_ fb] [] (.b true) [] := by
  refine fn13.spec0 mixed noIt_ok ?_
  rw [ic13]
  have hfi := fun σ => FSpec.frame (σ := σ) (fine40 (T := T) (ft := ft) (room := room) hl) (by simp) rfl
  refine ab_seq_k fun K1 h1 => ?_
  simp
  refine h1 _ _ _ ?_
  clear h1 K1
  refine ab_seq_k fun K2 h2 => ?_
  refine ab_seq_k fun K3 h3 => ?_
  simp [take_towC]
  refine callK_of (hfi _) ?_
  have hret : ∀ env σ, get env 23 = .b true → K3 (some 0) env σ := by
    intro env σ w
    refine h3 _ _ _ ?_
    refine ab_cond_of w (fun _ => ?_) (fun h => by cases h)
    refine ab_seq_k fun K4 h4 => ?_
    simp
    refine callK_of (wk _) ?_
    simp
    refine h4 _ _ _ ?_
    clear h4 K4
    simp
    exact fin_of 1 (by simp [rs13])
  by_cases hct0 : ¬ checkTow T room = 0
  · have hf : fineB T room = false := by simp [fineB, hct0]
    simp [hf]
    exact hret _ _ rfl
  replace hct0 : checkTow T room = 0 := Classical.not_not.1 hct0
  have hf : fineB T room = true := by simp [fineB, hct0]
  by_cases hg2 : (20 : Int) < by_.length
  · simp [hf, hg2]
    exact hret _ _ rfl
  simp [hf, hg2]
  refine h3 _ _ _ ?_
  clear h3 hret K3
  refine ab_cond_of rfl (fun h => by cases h) (fun _ => ?_)
  simp
  refine h2 _ _ _ ?_
  clear h2 K2
  obtain ⟨n1, n7, tb, r0, r7⟩ := tow_len hct0
  have hl9 : (T.length : Int) < 1000000000 := by omega
  have hgiv := orderBy_ord (by_ := by_) (n := T.length)
  obtain ⟨g1, g2, g3⟩ := isOrd_spec hgiv
  have G6 := fun σ => FSpec.frame (σ := σ) (order41 (T := T) (ft := ft) (fb := fb) (room := room) (by_ := by_) n1 n7 (by omega) (fun x hx => by have := hb2 x hx; omega)) (by simp) (by simp)
  refine ab_seq_k fun K5 h5 => ?_
  simp [take_towC]
  refine callK_of (G6 _) ?_
  simp [take_towC]
  refine h5 _ _ _ ?_
  clear h5 K5
  generalize orderBy by_ T.length = o at *
  have hgd : ∀ k, k < o.length → o[k]? = some (o.getD k 0) := fun k hk => by simp [List.getD_eq_getElem?_getD, List.getElem?_eq_getElem hk]
  have hx := hgd 0 (by omega)
  have hy := hgd (T.length - 1) (by omega)
  obtain ⟨hx0, hx1⟩ := g2 _ (List.mem_of_getElem? hx)
  obtain ⟨hy0, hy1⟩ := g2 _ (List.mem_of_getElem? hy)
  obtain ⟨hr1, hr2⟩ := raft_get hx0 hx1
  obtain ⟨hs1, hs2⟩ := raft_get hy0 hy1
  obtain ⟨z1, z2, z3⟩ := lsV_get hr1
  obtain ⟨y1, y2, y3⟩ := lsV_get hs1
  have hB := tb _ hr2
  have hB2 := tb _ hs2
  obtain ⟨hz2, z2'⟩ := List.getElem?_eq_some_iff.1 z2
  obtain ⟨hy3, y3'⟩ := List.getElem?_eq_some_iff.1 y3
  have hol : 0 < o.length := by omega
  have hlz : ((T.length : Int) - 1).toNat = T.length - 1 := by omega
  have hlp : T.length - 1 < T.length := by omega
  have hgx : o.getD 0 0 = o.getD 0 0 := rfl
  generalize hX : o.getD 0 0 = x at *
  generalize hY : o.getD (T.length - 1) 0 = y at *
  clear hgx
  obtain ⟨hyl, hy'⟩ := List.getElem?_eq_some_iff.1 hy
  obtain ⟨hxl, hx'⟩ := List.getElem?_eq_some_iff.1 hx
  refine ab_seq_k fun K6 h6 => ?_
  simp [abDs_consU, drU, recheck_cons, recheck_nil, rcK, IS.dst, get0_towC, hx, hy, hx', hy', hol, hx0, hx1, hy0, hy1, z2, z2', y3, y3', g1, hlz, hlp, wrap64 (x := (T.length : Int) - 1) (by omega) (by omega)]
  refine ⟨by omega, by omega, by omega, h6 _ _ _ ?_⟩
  clear h6 K6
  rw [wrap64 (x := (raft T x).1 + (raft T y).2) (by omega) (by omega)]
  refine ab_seq_k fun K7 h7 => ?_
  refine ab_seq_k fun K8 h8 => ?_
  simp
  refine h8 _ _ _ ?_
  clear h8 K8
  refine ab_block_k fun K9 h9 => ?_
  have hS1 : hS T o (0 + 1) = (raft T x).1 := by rw [← hX]; rfl
  refine ab_loop_k (fun m env σ => ∃ k : Nat, k + 1 + m = T.length ∧ env = [(2, .p 0 0 0), (5, sl o false), (6, .i .i64 (hS T o (k + 1) + (raft T y).2)), (7, .i .i64 ((k : Int) + 1))] ∧ σ = [O.row 0 (towC T ft room)]) (T.length - 1) ⟨0, by omega, by rw [hS1]; simp, rfl⟩ ?_
  rintro m env σ ⟨k, hk, rfl, rfl⟩ K10 h10
  rw [ic13_0]
  refine ab_seq_k fun K11 h11 => ?_
  refine ab_seq_k fun K12 h12 => ?_
  simp
  refine h12 _ _ _ ?_
  clear h12 K12
  refine ab_cond_of rfl (fun hc => ?_) (fun hc => ?_)
  · have hkl : k + 1 < o.length := by have := of_decide_eq_true hc; omega
    have hu := hgd k (by omega)
    have hv := hgd (k + 1) hkl
    have hbs := hS_b tb g2 (i := k) (by omega)
    have hbu := raft_b tb g2 (i := k) (by omega)
    have hbv := raft_b tb g2 hkl
    have hst : hS T o (k + 1 + 1) = hS T o (k + 1) + max (raft T (o.getD k 0)).2 (raft T (o.getD (k + 1) 0)).1 := rfl
    generalize hS T o (k + 1) = hs0 at *
    generalize o.getD k 0 = u at *
    generalize o.getD (k + 1) 0 = v at *
    obtain ⟨hu0, hu1⟩ := g2 _ (List.mem_of_getElem? hu)
    obtain ⟨hv0, hv1⟩ := g2 _ (List.mem_of_getElem? hv)
    obtain ⟨-, -, u3⟩ := lsV_get (raft_get hu0 hu1).1
    obtain ⟨-, v2, -⟩ := lsV_get (raft_get hv0 hv1).1
    obtain ⟨hu3, u3'⟩ := List.getElem?_eq_some_iff.1 u3
    obtain ⟨hv2, v2'⟩ := List.getElem?_eq_some_iff.1 v2
    obtain ⟨hul, hu'⟩ := List.getElem?_eq_some_iff.1 hu
    obtain ⟨hvl, hv'⟩ := List.getElem?_eq_some_iff.1 hv
    simp
    refine h11 _ _ _ ?_
    clear h11 K11
    refine ab_seq_k fun K13 h13 => ?_
    refine ab_block_k fun K14 h14 => ?_
    simp [abDs_consU, drU, recheck_cons, recheck_nil, rcK, IS.dst, get0_towC, hu, hv, hu', hv', hul, hvl, hu0, hu1, hv0, hv1, u3, u3', v2, v2', wrap64 (x := (k : Int)) (by omega) (by omega)]
    refine ⟨by omega, by omega, ?_⟩
    rw [wrap64 (x := hs0 + (raft T y).2 + max (raft T u).2 (raft T v).1) (by omega) (by omega)]
    refine h14 _ _ _ ?_
    refine h13 _ _ _ ?_
    simp [wrap64 (x := (k : Int) + 1 + 1) (by omega) (by omega)]
    refine h10 _ _ _ (again (m - 1) (by omega) ⟨k + 1, by omega, ?_, rfl⟩)
    simp [hst]
    omega
  · have hkl : k + 1 = T.length := by have := of_decide_eq_false hc; omega
    have hrun := run0 tb g2 (i := k) (by omega)
    have hto : o.take (k + 1) = o := List.take_of_length_le (by omega)
    rw [hto] at hrun
    have hky : o.getD k 0 = y := by rw [← hY]; congr 1; omega
    rw [hky] at hrun
    have hbs := hS_b tb g2 (i := k) (by omega)
    have htm : timeR T 0 o = hS T o (k + 1) + (raft T y).2 := hrun.2
    simp
    refine h9 _ _ _ ?_
    refine h7 _ _ _ ?_
    clear h7 h9 h10 h11 hrun
    rw [← htm]
    have hch0 := check_room (r := 0) hct0 (by omega) (by omega)
    have hch7 := check_room (r := 7) hct0 (by omega) (by omega)
    have hw := fun (r : Int) σ => FSpec.frame (σ := σ) (with45 (T := T) (ft := ft) (room := room) (r := r)) (by simp) (by simp)
    have hoE7 : ordE T 7 o = 0 := by simp [ordE, hch7, hgiv]
    have htp : timeP T 0 o = (timeR T 0 o, 0) := by simp [timeP, timeR, ordE, hch0, hgiv]
    have hthl : thrL T 7 o = putAll o.length o (runR T 7 o).thrs o.length := by simp [thrL, hoE7]
    have hthe : (thrL T 7 o).length = o.length := by rw [hthl, putAll_len]
    have G7 := fun σ => FSpec.frame (σ := σ) (time_ok (T := T) (ft := ft) (fo := false) (room := 0) (o := o) hl9 (by omega)) (by simp) (by simp [pairV])
    have G8 := fun σ => FSpec.frame (σ := σ) (through_ok (T := T) (ft := ft) (fo := false) (room := 7) (o := o) hl9 (by omega)) (by simp) (by simp [thrV])
    rw [htp] at G7
    simp only [thrV, hoE7] at G8
    have hrun7 := run7 (T := T) (o := o) (by omega) (k := o.length) (Nat.le_refl _)
    rw [List.take_length] at hrun7
    have hthg : ∀ k, k < o.length → (thrL T 7 o).getD (o.getD k 0).toNat 0 = (f7 T o (k + 1)).2 := by
      intro k hk
      rw [hthl, putAll_get g3 (by rw [g1]; exact g2) (Nat.le_refl _) k hk]
      exact hrun7.2.2 k hk
    clear hthl hrun7
    generalize thrL T 7 o = L at *
    have hLe : L.isEmpty = false := by
      cases L with
      | nil => simp at hthe; omega
      | cons a l => rfl
    rw [hLe] at G8
    generalize timeR T 0 o = tm at *
    refine ab_seq_k fun K20 h20 => ?_
    simp [take_towC, pairV]
    refine callK_of (hw _ _) ?_
    simp [take_towC, pairV]
    refine callK_of (G7 _) ?_
    simp [take_towC, pairV]
    refine h20 _ _ _ ?_
    clear h20 K20
    refine ab_seq_k fun K21 h21 => ?_
    simp [take_towC]
    refine callK_of (hw _ _) ?_
    simp [take_towC]
    refine callK_of (G8 _) ?_
    simp [take_towC]
    refine h21 _ _ _ ?_
    clear h21 K21
    refine ab_seq_k fun K22 h22 => ?_
    refine ab_seq_k fun K23 h23 => ?_
    simp [hthe]
    refine h23 _ _ _ ?_
    clear h23 K23
    refine ab_cond_of rfl (fun h => by cases h) (fun _ => ?_)
    simp
    refine h22 _ _ _ ?_
    clear h22 K22
    refine ab_seq_k fun K24 h24 => ?_
    simp
    refine h24 _ _ _ ?_
    clear h24 K24
    refine ab_seq_k fun K25 h25 => ?_
    refine ab_seq_k fun K26 h26 => ?_
    simp
    refine h26 _ _ _ ?_
    clear h26 K26
    refine ab_block_k fun K27 h27 => ?_
    have fb : ∀ k, k ≤ o.length → (0 ≤ (f7 T o k).1 ∧ (f7 T o k).1 ≤ 2000 * k) ∧ 0 ≤ (f7 T o k).2 ∧ (f7 T o k).2 ≤ 2000 * k := by
      intro k
      induction k with
      | zero => intro _; simp [f7]
      | succ k ih =>
        intro hk
        have ih := ih (by omega)
        have hr := raft_b tb g2 (i := k) (by omega)
        simp only [f7]
        omega
    refine ab_loop_k (fun m env σ => ∃ (k : Nat) (g : List O), k + m = T.length ∧ env = [(2, .p 0 0 0), (5, sl o false), (10, sl L false), (12, .i .i64 (f7 T o k).1), (13, .i .i64 (f7 T o k).2), (14, .i .i64 k)] ∧ σ = O.row 0 (towC T ft room) :: g) T.length ⟨0, [], by omega, by simp [f7, hthe], rfl⟩ ?_
    rintro m env σ ⟨k, g, hk2, rfl, rfl⟩ K28 h28
    rw [ic13_1]
    refine ab_seq_k fun K29 h29 => ?_
    refine ab_seq_k fun K30 h30 => ?_
    simp
    refine h30 _ _ _ ?_
    clear h30 K30
    refine ab_cond_of rfl (fun hc2 => ?_) (fun hc2 => ?_)
    · have hkl2 : k < o.length := by have := of_decide_eq_true hc2; omega
      have hu := hgd k hkl2
      have fbk := fb k (by omega)
      have fbk1 := fb (k + 1) (by omega)
      have hbu := raft_b tb g2 hkl2
      have hth := hthg k hkl2
      have hst : f7 T o (k + 1) = ((f7 T o k).1 + (raft T (o.getD k 0)).1, max (f7 T o k).2 ((f7 T o k).1 + (raft T (o.getD k 0)).1) + (raft T (o.getD k 0)).2) := rfl
      generalize hfk1 : f7 T o (k + 1) = fk1 at *
      generalize f7 T o k = fk at *
      generalize o.getD k 0 = u at *
      obtain ⟨hu0, hu1⟩ := g2 _ (List.mem_of_getElem? hu)
      obtain ⟨u1, u2, u3⟩ := lsV_get (raft_get hu0 hu1).1
      obtain ⟨hul, hu'⟩ := List.getElem?_eq_some_iff.1 hu
      have hLu : L[u.toNat]? = some fk1.2 := by rw [← hth]; exact o_some (by omega)
      obtain ⟨hLl, hLu'⟩ := List.getElem?_eq_some_iff.1 hLu
      have hm2 : min 2 (T.length * 2 - u.toNat * 2) = 2 := by omega
      have hle : u.toNat * 2 + 2 ≤ T.length * 2 := by omega
      simp
      refine h29 _ _ _ ?_
      clear h29 K29
      refine ab_seq_k fun K31 h31 => ?_
      refine ab_block_k fun K32 h32 => ?_
      refine ab_seq_k fun K33 h33 => ?_
      simp [abDs_consU, drU, recheck_cons, recheck_nil, rcK, IS.dst, get0_towC, hu, hu', hul, hu0, hu1, u1, hm2, hle]
      refine h33 _ _ _ ?_
      clear h33 K33
      have hrow : (O.row 0 (towC T ft room) :: (g ++ [O.row 0 [V.i IntKind.i64 (raft T u).fst, V.i IntKind.i64 (raft T u).snd]]))[g.length + 1]? = some (O.row 0 [V.i IntKind.i64 (raft T u).fst, V.i IntKind.i64 (raft T u).snd]) := by simp
      generalize g ++ [O.row 0 [V.i IntKind.i64 (raft T u).fst, V.i IntKind.i64 (raft T u).snd]] = g' at *
      have hLi : u < (L.length : Int) := by omega
      have e1 : fk1.1 = fk.1 + (raft T u).1 := by rw [hst]
      have e2 : fk1.2 = max fk.2 (fk.1 + (raft T u).1) + (raft T u).2 := by rw [hst]
      obtain ⟨hrw1, hrow'⟩ := List.getElem?_eq_some_iff.1 hrow
      generalize hgl : g.length + 1 = gl at *
      refine ab_seq_k fun K34 h34 => ?_
      simp [hrow, hrow', wrap64 (x := fk.1 + (raft T u).1) (by omega) (by omega)]
      refine h34 _ _ _ ?_
      clear h34 K34
      refine ab_seq_k fun K35 h35 => ?_
      simp [hrow, hrow', wrap64 (x := max fk.2 (fk.1 + (raft T u).1) + (raft T u).2) (by omega) (by omega)]
      refine h35 _ _ _ ?_
      clear h35 K35
      refine ab_seq_k fun K36 h36 => ?_
      simp [hu, hu', hul, hu0, hu1, hLu, hLu', hLl, hLi, e2]
      refine h36 _ _ _ ?_
      clear h36 K36
      refine ab_cond_of rfl (fun h => by simp at h) (fun _ => ?_)
      simp
      refine h32 _ _ _ ?_
      refine h31 _ _ _ ?_
      simp [wrap64 (x := (k : Int) + 1) (by omega) (by omega)]
      exact h28 _ _ _ (again (m - 1) (by omega) ⟨k + 1, g', by omega, by simp [hfk1, e1, e2], rfl⟩)
    · simp
      refine h27 _ _ _ ?_
      refine h25 _ _ _ ?_
      refine ab_seq_k fun K37 h37 => ?_
      simp
      refine callK_of (wk _) ?_
      simp
      refine h37 _ _ _ ?_
      clear h37 K37
      simp
      exact fin_of 1 (by simp [rs13])
end Go.Ab
