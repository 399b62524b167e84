/- The law LockTimes. -/
import Derived.Test.YtkcfknlpdfgjnaaMO
set_option linter.unusedVariables false
set_option linter.unusedSimpArgs false
set_option maxHeartbeats 4000000
set_option maxRecDepth 100000
namespace Go.Ab
open Go Go.Proofs

theorem len5 {α : Type} {l : List α} (h : l.length = 5) : ∃ a b c d e, l = [a, b, c, d, e] := by match l, h with | [a, b, c, d, e], _ => exact ⟨a, b, c, d, e, rfl⟩
theorem manyT_take {T : Tw} {n : Int} {i : Nat} {p : Int × Int} (h : T[i]? = some p) : manyT n (T.take (i + 1)) = manyT n (T.take i) ++ [(n * p.1, n * p.2)] := by
  rw [List.take_add_one, h]; simp [manyT]
theorem take_two {σ : List O} {a b : O} (h0 : σ[0]? = some a) (h1 : σ[1]? = some b) : σ.take 2 = [a, b] := by
  match σ, h0, h1 with
  | [], h0, _ => cases h0
  | [x], _, h1 => cases h1
  | x :: y :: r, h0, h1 => simp at h0 h1; subst h0; subst h1; rfl
theorem frz_grow {σ : List O} {T T' : Tw} {ft : Bool} {room : Int} {v : V} (s0 : σ[0]? = some (.row 0 (towC T ft room))) (s1 : σ[1]? = some (.row 0 [v, .i .i64 room])) (hv : Gr 2 2 σ v T'.length (lsV T')) (hn : T'.length ≠ 0) : frzS 3 2 σ = [O.row 0 (towC T ft room), O.row 0 (towC T' false room)] := by
  rw [frzS, take_two s0 s1]
  rcases hv.cases with ⟨h, -, -⟩ | ⟨id, ver, -, hid, rfl, hs, hl⟩
  · exact absurd h hn
  · have h := frz_row (k := 1) (n := 2) (m := T'.length) (es := 2) hs hid (by simp) (pure_lsV (l := T'))
    show [O.row 0 ((towC T ft room).map (frz 3 2 σ)), O.row 0 [frz 3 2 σ (.s id ver 0 T'.length 2), frz 3 2 σ (.i .i64 room)]] = _
    rw [map_frz pure_towC, h]
    rfl

theorem lockTimes {T : Tw} {ft fb : Bool} {room : Int} {by_ : List Int} {w x y : Int} (hl : (T.length : Int) < 9223372036854775808) (hb : (by_.length : Int) < 9223372036854775808) (hb2 : ∀ x ∈ by_, 0 ≤ x ∧ x < 256) (hw0 : 0 ≤ w) (hw1 : w < 256) (hx0 : 0 ≤ x) (hx1 : x < 256) (hy0 : 0 ≤ y) (hy1 : y < 65536) :
    FSpec Try.prog 12 [towV T ft room, slB by_ fb, .i .u8 w, .i .u8 x, .i .u16 y] [] (.b true) [] := by
  refine fn12.spec0 mixed noIt_ok ?_
  rw [ic12]
  have hfi := fun σ => FSpec.frame (σ := σ) (fine40 (T := T) (ft := ft) (room := room) hl) (by simp) rfl
  refine ab_seq_k fun K1 h1 => ?_
  simp
  refine h1 _ _ _ ?_
  clear h1 K1
  refine ab_seq_k fun K2 h2 => ?_
  refine ab_seq_k fun K3 h3 => ?_
  simp [take_towC]
  refine callK_of (hfi _) ?_
  have hret : ∀ env σ, get env 45 = .b true → K3 (some 0) env σ := by
    intro env σ w
    refine h3 _ _ _ ?_
    refine ab_cond_of w (fun _ => ?_) (fun h => by cases h)
    refine ab_seq_k fun K4 h4 => ?_
    simp
    refine callK_of (wk _) ?_
    simp
    refine h4 _ _ _ ?_
    clear h4 K4
    simp
    exact fin_of 1 (by simp [rs12])
  by_cases hct0 : ¬ checkTow T room = 0
  · have hf : fineB T room = false := by simp [fineB, hct0]
    simp [hf]
    exact hret _ _ rfl
  replace hct0 : checkTow T room = 0 := Classical.not_not.1 hct0
  have hf : fineB T room = true := by simp [fineB, hct0]
  obtain ⟨n1, n7, tb, r0, r7⟩ := tow_len hct0
  by_cases hg1 : (5 : Int) < T.length
  · simp [hf, hg1, get0_towC]
    exact hret _ _ rfl
  by_cases hg2 : (20 : Int) < by_.length
  · simp [hf, hg1, hg2, get0_towC]
    exact hret _ _ rfl
  simp [hf, hg1, hg2, get0_towC]
  refine h3 _ _ _ ?_
  clear h3 hret K3
  refine ab_cond_of rfl (fun h => by cases h) (fun _ => ?_)
  simp
  refine h2 _ _ _ ?_
  clear h2 K2
  have hl9 : (T.length : Int) < 1000000000 := by omega
  have hn0 : 0 ≤ w % 9 := by omega
  have hn9 : w % 9 ≤ 8 := by omega
  have hwa : w.tmod 9 = w % 9 := Int.tmod_eq_emod_of_nonneg hw0
  generalize hnn : 1 + w % 9 = n at *
  have hnw : IntKind.i64.wrap (1 + w % 9) = n := by rw [wrap64 (by omega) (by omega)]; exact hnn
  have hn1 : 1 ≤ n := by omega
  have hn2 : n ≤ 9 := by omega
  have hmul : ∀ z : Int, 0 ≤ z → z ≤ 1000000 → 0 ≤ n * z ∧ n * z ≤ 9 * 1000000 := by
    intro z h0 h1
    have a := Int.mul_nonneg (show 0 ≤ n by omega) h0
    have b := Int.mul_le_mul hn2 h1 h0 (by decide)
    omega
  refine ab_seq_k fun K5 h5 => ?_
  simp [wrap64 (x := w) (by omega) (by omega), hwa, hnw]
  refine h5 _ _ _ ?_
  clear h5 K5
  refine ab_seq_k fun K6 h6 => ?_
  simp [get1_towC]
  refine h6 _ _ _ ?_
  clear h6 K6
  refine ab_seq_k fun K7 h7 => ?_
  refine ab_seq_k fun K8 h8 => ?_
  simp
  refine h8 _ _ _ ?_
  clear h8 K8
  refine ab_block_k fun K9 h9 => ?_
  refine ab_loop_k (fun m env σ => ∃ (i : Nat), i + m = T.length ∧ env = [(1, slB by_ fb), (3, .i .u8 x), (4, .i .u16 y), (5, .p 0 0 0), (11, .i .i64 n), (12, .p 1 0 0), (13, .i .i64 i)] ∧ σ[0]? = some (.row 0 (towC T ft room)) ∧ ((i < T.length ∧ ∃ v, σ[1]? = some (.row 0 [v, .i .i64 room]) ∧ Gr 2 2 σ v i (lsV (manyT n (T.take i)))) ∨ (i = T.length ∧ σ = [O.row 0 (towC T ft room), O.row 0 (towC (manyT n T) false room)]))) T.length ⟨0, by omega, by simp, rfl, .inl ⟨by omega, .ss [] 0 true, rfl, by simpa [manyT, lsV] using Gr.nil⟩⟩ ?_
  rintro m env σ ⟨i, hi, rfl, s0, hcase⟩ K10 h10
  obtain ⟨hs0, s0'⟩ := List.getElem?_eq_some_iff.1 s0
  rw [ic12_0]
  refine ab_seq_k fun K11 h11 => ?_
  refine ab_seq_k fun K12 h12 => ?_
  simp [s0, s0', get0_towC]
  refine h12 _ _ _ ?_
  clear h12 K12
  refine ab_cond_of rfl (fun hc => ?_) (fun hc => ?_)
  · have hil : i < T.length := by simpa using hc
    obtain ⟨-, v, s1, hv⟩ := hcase.resolve_right (fun h => by omega)
    have hσ2 : 2 ≤ σ.length := by have := (List.getElem?_eq_some_iff.1 s1).1; omega
    obtain ⟨hs1, s1'⟩ := List.getElem?_eq_some_iff.1 s1
    obtain ⟨p, hp⟩ : ∃ p, T[i]? = some p := ⟨_, List.getElem?_eq_getElem hil⟩
    obtain ⟨z1, z2, z3⟩ := lsV_get hp
    obtain ⟨hz2, z2'⟩ := List.getElem?_eq_some_iff.1 z2
    obtain ⟨hz3, z3'⟩ := List.getElem?_eq_some_iff.1 z3
    obtain ⟨⟨b1, b2⟩, b3, b4⟩ := tb p (List.mem_of_getElem? hp)
    have m1 := hmul p.1 b1 (by omega)
    have m2 := hmul p.2 b3 (by omega)
    simp
    refine h11 _ _ _ ?_
    clear h11 K11
    refine ab_seq_k fun K13 h13 => ?_
    refine ab_block_k fun K14 h14 => ?_
    simp [abDs_consU, drU, recheck_cons, recheck_nil, rcK, IS.dst, s0, s0', s1, s1', get0_towC, hil, z2, z2', z3, z3', wrap64 (x := n * p.1) (by omega) (by omega), wrap64 (x := n * p.2) (by omega) (by omega)]
    refine appG hv hσ2 (by omega) (by simp) rfl ?_
    intro v' σ' hg1 hg2
    have e : lsV (manyT n (T.take i)) ++ [V.i IntKind.i64 (n * p.1), V.i IntKind.i64 (n * p.2)] = lsV (manyT n (T.take (i + 1))) := by rw [manyT_take hp, lsV_append]; rfl
    rw [e] at hg1
    have t0 := s0
    have t1 := s1
    rw [← hg2.lt hv (by omega) hσ2] at t0 t1
    obtain ⟨ht1, t1'⟩ := List.getElem?_eq_some_iff.1 t1
    simp [abDs_consU, drU, recheck_cons, recheck_nil, rcK, IS.dst, t1, t1']
    refine ⟨hg1.one, h14 _ _ _ ?_⟩
    refine h13 _ _ _ ?_
    simp [wrap64 (x := (i : Int) + 1) (by omega) (by omega)]
    have u0 : (σ'.set 1 (O.row 0 [v', V.i IntKind.i64 room]))[0]? = some (.row 0 (towC T ft room)) := by rw [List.getElem?_set_ne (by omega)]; exact t0
    have u1 : (σ'.set 1 (O.row 0 [v', V.i IntKind.i64 room]))[1]? = some (.row 0 [v', V.i IntKind.i64 room]) := List.getElem?_set_self ht1
    have uv := hg1.setlt (i := 1) (o := O.row 0 [v', V.i IntKind.i64 room]) (by omega)
    generalize σ'.set 1 (O.row 0 [v', V.i IntKind.i64 room]) = W at *
    by_cases hend : i + 1 < T.length
    · exact h10 _ _ _ (again (m - 1) (by omega) ⟨i + 1, by omega, by simp, u0, .inl ⟨hend, v', u1, uv⟩⟩)
    · have hil2 : i + 1 = T.length := by omega
      rw [hil2, List.take_length] at uv
      have hWl := (List.getElem?_eq_some_iff.1 u1).1
      have hfz := frz_grow (T' := manyT n T) u0 u1 (by rw [manyT_len]; exact uv) (by rw [manyT_len]; omega)
      refine h10 _ _ _ (againF (m - 1) 3 2 (by omega) (by omega) (by omega) ⟨i + 1, by omega, ?_, ?_, .inr ⟨hil2, hfz⟩⟩)
      · simp [frzE]
      · rw [hfz]; rfl
  · have hil : i = T.length := by simp at hc; omega
    obtain ⟨-, rfl⟩ := hcase.resolve_left (fun h => by omega)
    subst hil
    simp
    refine h9 _ _ _ ?_
    refine h7 _ _ _ ?_
    clear h7 h9 h10 h11 s0 s0' hs0
    have hya : y.tmod 1001 = y % 1001 := Int.tmod_eq_emod_of_nonneg hy0
    have hty0 : 0 ≤ y % 1001 := by omega
    have hty1 : y % 1001 ≤ 1000 := by omega
    refine ab_seq_k fun K20 h20 => ?_
    simp [wrap64 (x := y) (by omega) (by omega), hya]
    refine h20 _ _ _ ?_
    clear h20 K20
    generalize y % 1001 = t at *
    have ht9 := hmul t hty0 (by omega)
    refine ab_seq_k fun K21 h21 => ?_
    refine ab_seq_k fun K22 h22 => ?_
    have hfi2 := fun σ => FSpec.frame (σ := σ) (fine40 (T := manyT n T) (ft := false) (room := room) (by rw [manyT_len]; exact hl)) (by simp) rfl
    simp [take_towC]
    refine callK_of (hfi2 _) ?_
    have hret : ∀ env σ, get env 94 = .b true → K22 (some 0) env σ := by
      intro env σ w
      refine h22 _ _ _ ?_
      refine ab_cond_of w (fun _ => ?_) (fun h => by cases h)
      refine ab_seq_k fun K23 h23 => ?_
      simp
      refine callK_of (wk _) ?_
      simp
      refine h23 _ _ _ ?_
      clear h23 K23
      simp
      exact fin_of 1 (by simp [rs12])
    by_cases hct1 : ¬ checkTow (manyT n T) room = 0
    · have hf : fineB (manyT n T) room = false := by simp [fineB, hct1]
      simp [hf]
      exact hret _ _ rfl
    replace hct1 : checkTow (manyT n T) room = 0 := Classical.not_not.1 hct1
    have hf2 : fineB (manyT n T) room = true := by simp [fineB, hct1]
    have hntw : IntKind.i64.wrap (n * t) = n * t := wrap64 (by omega) (by omega)
    by_cases hg3 : (1000 : Int) < n * t
    · simp [hf2, hg3, hntw]
      exact hret _ _ rfl
    simp [hf2, hg3, hntw]
    refine h22 _ _ _ ?_
    clear h22 hret K22
    refine ab_cond_of rfl (fun h => by cases h) (fun _ => ?_)
    simp
    refine h21 _ _ _ ?_
    clear h21 K21
    obtain ⟨-, -, tb2, -, -⟩ := tow_len hct1
    have hgiv := orderBy_ord (by_ := by_) (n := T.length)
    obtain ⟨g1, g2, g3⟩ := isOrd_spec hgiv
    have G6 := fun σ => FSpec.frame (σ := σ) (order41 (T := T) (ft := ft) (fb := fb) (room := room) (by_ := by_) n1 n7 (by omega) (fun x hx => by have := hb2 x hx; omega)) (by simp) (by simp)
    have G7 := fun σ => FSpec.frame (σ := σ) (time_ok (T := T) (ft := ft) (fo := false) (room := room) (o := orderBy by_ T.length) hl9 (by omega)) (by simp) (by simp [pairV])
    have G8 := fun σ => FSpec.frame (σ := σ) (time_ok (T := manyT n T) (ft := false) (fo := false) (room := room) (o := orderBy by_ T.length) (by rw [manyT_len]; exact hl9) (by omega)) (by simp) (by simp [pairV])
    have htp : timeP T room (orderBy by_ T.length) = (timeR T room (orderBy by_ T.length), 0) := by simp [timeP, timeR, ordE, hct0, hgiv]
    have htp2 : timeP (manyT n T) room (orderBy by_ T.length) = (n * timeR T room (orderBy by_ T.length), 0) := by
      have h := time_many (T := T) (r := room) (n := n) (o := orderBy by_ T.length) (by omega)
      rw [← h]
      simp [timeP, timeR, ordE, hct1, hgiv]
    rw [htp] at G7
    rw [htp2] at G8
    have hrl : (ruleO T).length = T.length := (isOrd_spec (perm_isOrd (ruleO_perm (T := T)))).1
    have G9 := fun σ => FSpec.frame (σ := σ) (prgRule (T := T) (ft := ft) (room := room) hl9) (by simp) (by simp [ruleP, hct0])
    have GA := fun σ => FSpec.frame (σ := σ) (prgRule (T := manyT n T) (ft := false) (room := room) (by rw [manyT_len]; exact hl9)) (by simp) (by simp [ruleP, hct1])
    have hrp : ruleP T room = .tup [sl (ruleO T) false, .i .i64 0] := by simp [ruleP, hct0]
    have hrp2 : ruleP (manyT n T) room = .tup [sl (ruleO T) false, .i .i64 0] := by simp [ruleP, hct1, rule_many (show 0 < n by omega)]
    rw [hrp] at G9
    rw [hrp2] at GA
    have hkx : 1 + x % 2 = 1 ∨ 1 + x % 2 = 2 := by omega
    have hxa : x.tmod 2 = x % 2 := Int.tmod_eq_emod_of_nonneg hx0
    generalize hk1 : 1 + x % 2 = k1 at *
    have hk1w : IntKind.i64.wrap (1 + x % 2) = k1 := by rw [wrap64 (by omega) (by omega)]; exact hk1
    have GB := fun σ => FSpec.frame (σ := σ) (prgBound (T := T) (ft := ft) (room := room) (lock := k1) (t := t) hl9) (by simp) (by simp [pairV])
    have GC := fun σ => FSpec.frame (σ := σ) (prgBound (T := manyT n T) (ft := false) (room := room) (lock := k1) (t := n * t) (by rw [manyT_len]; exact hl9)) (by simp) (by simp [pairV])
    have hbd : ∃ b e, boundP T room k1 t = (b, e) ∧ boundP (manyT n T) room k1 (n * t) = (n * b, e) ∧ 0 ≤ b ∧ b ≤ 1000000 := by
      have hbm := bound_many (T := T) (k := k1) (s := t) (show 0 < n by omega)
      have hbl := bfold_le (lock := k1) (t := t) (acc := (t, false)) tb
      have hB : boundF T k1 t = T.foldl (bstep k1 t) (t, false) := rfl
      rw [← hB] at hbl
      simp only at hbl
      unfold boundP boundE
      rw [hbm, hct0, hct1]
      have c1 : ¬ n * t < 0 := by omega
      have c2 : ¬ t < 0 := by omega
      have c3 : ¬ (1000 : Int) < t := by omega
      cases hok : (boundF T k1 t).2
      · refine ⟨0, 5, ?_, ?_, by omega, by omega⟩ <;> (rcases hkx with rfl | rfl <;> simp [hg3, c1, c2, c3])
      · refine ⟨(boundF T k1 t).1, 0, ?_, ?_, by omega, by omega⟩ <;> (rcases hkx with rfl | rfl <;> simp [hg3, c1, c2, c3])
    obtain ⟨bb, be, hbd1, hbd2, bb0, bb1⟩ := hbd
    rw [hbd1] at GB
    rw [hbd2] at GC
    have GD := fun σ => FSpec.frame (σ := σ) (prgEnough (T := T) (ft := ft) (room := room) hl9) (by simp) (by simp [pairV])
    have GE := fun σ => FSpec.frame (σ := σ) (prgEnough (T := manyT n T) (ft := false) (room := room) (by rw [manyT_len]; exact hl9)) (by simp) (by simp [pairV])
    have hep : enoughP T room = (((enoughN T : Nat) : Int), 0) := by simp [enoughP, hct0]
    have hep2 : enoughP (manyT n T) room = (((enoughN T : Nat) : Int), 0) := by simp [enoughP, hct1, enough_many (show 0 < n by omega)]
    rw [hep] at GD
    rw [hep2] at GE
    have GI := fun σ => FSpec.frame (σ := σ) (ints_ok (a := ruleO T) (b := ruleO T) (fa := false) (fb := false) (by rw [hrl]; omega)) (by simp) rfl
    have hta : 0 ≤ timeR T room (orderBy by_ T.length) ∧ timeR T room (orderBy by_ T.length) ≤ 1000000 := by
      have h := (runR_rb (T := T) tb (room := room) (o := orderBy by_ T.length)).last
      unfold timeR
      omega
    generalize timeR T room (orderBy by_ T.length) = ta at *
    generalize orderBy by_ T.length = o at *
    generalize ruleO T = rl at *
    generalize enoughN T = en at *
    have hna := hmul ta hta.1 hta.2
    have hnb := hmul bb bb0 bb1
    have w1 : IntKind.i64.wrap (n * ta) = n * ta := wrap64 (by omega) (by omega)
    have w2 : IntKind.i64.wrap (n * bb) = n * bb := wrap64 (by omega) (by omega)
    have w3 : IntKind.i64.wrap x = x := wrap64 (by omega) (by omega)
    refine ab_seq_k fun K24 h24 => ?_
    simp [take_towC]
    refine callK_of (G6 _) ?_
    simp [take_towC]
    refine h24 _ _ _ ?_
    clear h24 K24
    refine ab_seq_k fun K25 h25 => ?_
    simp [take_towC, pairV]
    refine callK_of (G7 _) ?_
    simp [take_towC, pairV]
    refine h25 _ _ _ ?_
    clear h25 K25
    refine ab_seq_k fun K26 h26 => ?_
    simp [take_towC, pairV]
    refine callK_of (G8 _) ?_
    simp [take_towC, pairV]
    refine h26 _ _ _ ?_
    clear h26 K26
    refine ab_seq_k fun K27 h27 => ?_
    simp [take_towC, pairV]
    refine callK_of (G9 _) ?_
    simp [take_towC, pairV]
    refine h27 _ _ _ ?_
    clear h27 K27
    refine ab_seq_k fun K28 h28 => ?_
    simp [take_towC, pairV]
    refine callK_of (GA _) ?_
    simp [take_towC, pairV]
    refine h28 _ _ _ ?_
    clear h28 K28
    refine ab_seq_k fun K29 h29 => ?_
    simp [take_towC, pairV, w3, hxa, hk1w]
    refine callK_of (GB _) ?_
    simp [take_towC, pairV, w3, hxa, hk1w]
    refine h29 _ _ _ ?_
    clear h29 K29
    refine ab_seq_k fun K30 h30 => ?_
    simp [take_towC, pairV, w3, hxa, hk1w, hntw]
    refine callK_of (GC _) ?_
    simp [take_towC, pairV, w3, hxa, hk1w, hntw]
    refine h30 _ _ _ ?_
    clear h30 K30
    refine ab_seq_k fun K31 h31 => ?_
    simp [take_towC, pairV]
    refine callK_of (GD _) ?_
    simp [take_towC, pairV]
    refine h31 _ _ _ ?_
    clear h31 K31
    refine ab_seq_k fun K32 h32 => ?_
    simp [take_towC, pairV]
    refine callK_of (GE _) ?_
    simp [take_towC, pairV]
    refine h32 _ _ _ ?_
    clear h32 K32
    refine ab_seq_k fun K33 h33 => ?_
    simp [w1, w2]
    refine callK_of (GI _) ?_
    simp [w1, w2]
    refine callK_of (wk _) ?_
    simp [w1, w2]
    refine h33 _ _ _ ?_
    clear h33 K33
    simp
    exact fin_of 1 (by simp [rs12])
end Go.Ab
