/- The law LockRoom. -/
import Derived.Test.YtkcfknlpdfgjnaaMD
set_option linter.unusedVariables false
set_option linter.unusedSimpArgs false
set_option maxHeartbeats 4000000
set_option maxRecDepth 100000
namespace Go.Ab
open Go Go.Proofs

theorem mem_orders {n : Nat} {t : List Int} : ∀ {b : List Int}, (∀ x ∈ t, 0 ≤ x ∧ x < (n : Int)) → (b ++ t).Nodup → b ++ t ∈ picks n t.length b := by
  induction t with
  | nil => intro b _ _; simp [picks]
  | cons x t ih =>
    intro b h hn
    obtain ⟨h0, h1⟩ := h x (List.mem_cons_self ..)
    have e : b ++ x :: t = (b ++ [x]) ++ t := by simp
    have ih := ih (b := b ++ [x]) (fun y hy => h y (List.mem_cons_of_mem _ hy)) (by rw [← e]; exact hn)
    rw [← e] at ih
    rw [List.length_cons, picks, List.mem_flatMap]
    refine ⟨x.toNat, List.mem_range.2 (by omega), ?_⟩
    have hx : ((x.toNat : Nat) : Int) = x := by omega
    rw [hx]
    have hxb : ¬ x ∈ b := by
      intro hb
      rw [List.nodup_append] at hn
      exact hn.2.2 x hb x (List.mem_cons_self ..) rfl
    rw [if_neg hxb]
    exact ih
/-- As long as there is room for all, its size does not matter. -/
theorem run_same {T : Tw} {r r' : Int} : ∀ {o : List Int} {s : RS}, (s.secs.length : Int) + o.length ≤ r → (s.secs.length : Int) + o.length ≤ r' → o.foldl (stepR T r) s = o.foldl (stepR T r') s
  | [], s, _, _ => rfl
  | x :: o, s, h1, h2 => by
    rw [List.length_cons] at h1 h2
    have e : stepR T r s x = stepR T r' s x := by
      unfold stepR
      rw [if_neg (show ¬ r ≤ (s.secs.length : Int) by omega), if_neg (show ¬ r' ≤ (s.secs.length : Int) by omega)]
    rw [List.foldl_cons, List.foldl_cons, e]
    have hl : (stepR T r' s x).secs.length = s.secs.length + 1 := by simp [stepR]
    exact run_same (by rw [hl]; omega) (by rw [hl]; omega)
theorem time_big {T : Tw} {r r' : Int} {o : List Int} (h1 : (o.length : Int) - 1 ≤ r) (h2 : (o.length : Int) - 1 ≤ r') (hr : 0 ≤ r) (hr' : 0 ≤ r') : timeR T r o = timeR T r' o := by
  rcases List.eq_nil_or_concat o with rfl | ⟨o', x, rfl⟩
  · rfl
  · rw [List.concat_eq_append] at *
    rw [List.length_append, List.length_singleton] at h1 h2
    unfold timeR runR
    have e := run_same (T := T) (o := o') (s := ⟨[], [], 0, 0⟩) (r := r) (r' := r') (by simp; omega) (by simp; omega)
    rw [List.foldl_append, List.foldl_append, e]
    rfl
theorem bestT_big {T : Tw} {r r' : Int} (h1 : (T.length : Int) - 1 ≤ r) (h2 : (T.length : Int) - 1 ≤ r') (hr : 0 ≤ r) (hr' : 0 ≤ r') : bestT T r = bestT T r' := by
  have a := (bestO_spec (T := T) (room := r)).2.1
  have b := (bestO_spec (T := T) (room := r')).2.1
  have e1 := time_big (T := T) (o := bestO T r) (r := r) (r' := r') (by rw [(orders_mem a).1]; exact h1) (by rw [(orders_mem a).1]; exact h2) hr hr'
  have e2 := time_big (T := T) (o := bestO T r') (r := r) (r' := r') (by rw [(orders_mem b).1]; exact h1) (by rw [(orders_mem b).1]; exact h2) hr hr'
  have l1 := bestT_le (room := r) b
  have l2 := bestT_le (room := r') a
  have d1 : bestT T r = timeR T r (bestO T r) := rfl
  have d2 : bestT T r' = timeR T r' (bestO T r') := rfl
  omega
theorem enough_le {T : Tw} (hb : TB T) (hn : 1 ≤ T.length) (hn7 : T.length ≤ 7) : (enoughN T : Int) ≤ T.length - 1 := by
  obtain ⟨e1, e2, e3⟩ := enough_spec (T := T)
  false_or_by_contra
  rename_i h
  have h1 := e2 (T.length - 1) (by omega)
  have h2 := bestT_big (T := T) (r := ((T.length - 1 : Nat) : Int)) (r' := 7) (by omega) (by omega) (by omega) (by omega)
  have h3 := bestT_room (T := T) (r := (enoughN T : Nat)) (r' := 7) hb (by omega) (by omega)
  omega
theorem enough_iff {T : Tw} {a : Nat} (hb : TB T) (ha : a < 8) : bestT T a = bestT T 7 ↔ enoughN T ≤ a := by
  obtain ⟨e1, e2, e3⟩ := enough_spec (T := T)
  have h7 : bestT T ((enoughN T : Nat) : Int) ≤ bestT T 7 := e1 7 (by omega)
  have h3 := bestT_room (T := T) (r := (enoughN T : Nat)) (r' := 7) hb (by omega) (by omega)
  have ha7 := bestT_room (T := T) (r := (a : Int)) (r' := 7) hb (by omega) (by omega)
  constructor
  · intro h
    false_or_by_contra
    rename_i hno
    have := e2 a (by omega)
    omega
  · intro h
    have := bestT_room (T := T) (r := (enoughN T : Nat)) (r' := (a : Int)) hb (by omega) (by omega)
    omega

theorem lockRoom {T : Tw} {ft fb : Bool} {room : Int} {by_ : List Int} {x y : Int} (hl : (T.length : Int) < 9223372036854775808) (hb : (by_.length : Int) < 9223372036854775808) (hb2 : ∀ x ∈ by_, 0 ≤ x ∧ x < 256) (hx0 : 0 ≤ x) (hx1 : x < 256) (hy0 : 0 ≤ y) (hy1 : y < 256) :
    FSpec Try.prog 9 [towV T ft room, slB by_ fb, .i .u8 x, .i .u8 y] [] (.b true) [] := by
  refine fn9.spec0 mixed noIt_ok ?_
  rw [ic9]
  have hfi := fun σ => FSpec.frame (σ := σ) (fine40 (T := T) (ft := ft) (room := room) hl) (by simp) rfl
  refine ab_seq_k fun K1 h1 => ?_
  simp
  refine h1 _ _ _ ?_
  clear h1 K1
  refine ab_seq_k fun K2 h2 => ?_
  refine ab_seq_k fun K3 h3 => ?_
  simp [take_towC]
  refine callK_of (hfi _) ?_
  have hret : ∀ env σ, get env 33 = .b true → K3 (some 0) env σ := by
    intro env σ w
    refine h3 _ _ _ ?_
    refine ab_cond_of w (fun _ => ?_) (fun h => by cases h)
    refine ab_seq_k fun K4 h4 => ?_
    simp
    refine callK_of (wk _) ?_
    simp
    refine h4 _ _ _ ?_
    clear h4 K4
    simp
    exact fin_of 1 (by simp [rs9])
  by_cases hct0 : ¬ checkTow T room = 0
  · have hf : fineB T room = false := by simp [fineB, hct0]
    simp [hf]
    exact hret _ _ rfl
  replace hct0 : checkTow T room = 0 := Classical.not_not.1 hct0
  have hf : fineB T room = true := by simp [fineB, hct0]
  obtain ⟨n1, n7, tb, r0, r7⟩ := tow_len hct0
  have hl9 : (T.length : Int) < 1000000000 := by omega
  have hsl := fun σ => FSpec.frame (σ := σ) (slow24 (T := T) (ft := ft) (room := room) hl9) (by simp) rfl
  simp [hf, take_towC]
  refine callK_of (hsl _) ?_
  by_cases hg1 : (6 : Int) < T.length
  · simp [hct0, hg1]
    exact hret _ _ rfl
  by_cases hg2 : (20 : Int) < by_.length
  · simp [hct0, hg1, hg2]
    exact hret _ _ rfl
  simp [hct0, hg1, hg2]
  refine h3 _ _ _ ?_
  clear h3 hret K3
  refine ab_cond_of rfl (fun h => by cases h) (fun _ => ?_)
  simp
  refine h2 _ _ _ ?_
  clear h2 K2
  have hgiv := orderBy_ord (by_ := by_) (n := T.length)
  obtain ⟨g1, g2, g3⟩ := isOrd_spec hgiv
  have G6 := fun σ => FSpec.frame (σ := σ) (order41 (T := T) (ft := ft) (fb := fb) (room := room) (by_ := by_) n1 n7 (by omega) (fun x hx => by have := hb2 x hx; omega)) (by simp) (by simp)
  obtain ⟨a, ha⟩ : ∃ a : Nat, (a : Int) = x % 8 := ⟨(x % 8).toNat, by omega⟩
  obtain ⟨b, hb'⟩ : ∃ b : Nat, (b : Int) = y % 8 := ⟨(y % 8).toNat, by omega⟩
  have ha8 : a < 8 := by omega
  have hb8 : b < 8 := by omega
  have hw := fun (r : Int) σ => FSpec.frame (σ := σ) (with45 (T := T) (ft := ft) (room := room) (r := r)) (by simp) (by simp)
  have hch := fun (r : Int) h0 h7 => check_room (r := r) hct0 h0 h7
  have G7 := fun (r : Int) (h0 : 0 ≤ r) (h7 : r ≤ 7) σ => FSpec.frame (σ := σ) (time_ok (T := T) (ft := ft) (fo := false) (room := r) (o := orderBy by_ T.length) hl9 (by omega)) (by simp) (by simp [pairV])
  have htp : ∀ r : Int, 0 ≤ r → r ≤ 7 → timeP T r (orderBy by_ T.length) = (timeR T r (orderBy by_ T.length), 0) := fun r h0 h7 => by simp [timeP, timeR, ordE, hch r h0 h7, hgiv]
  have G8 := fun σ => FSpec.frame (σ := σ) (prgEnough (T := T) (ft := ft) (room := room) hl9) (by simp) (by simp [pairV])
  have hep : enoughP T room = (((enoughN T : Nat) : Int), 0) := by simp [enoughP, hct0]
  have G9 := fun (r : Int) (h0 : 0 ≤ r) (h7 : r ≤ 7) σ => FSpec.frame (σ := σ) (prgBest (T := T) (ft := ft) (room := r) hl9) (by simp) (by simp [pairV])
  have hbp : ∀ r : Int, 0 ≤ r → r ≤ 7 → bestP T r = (bestT T r, 0) := fun r h0 h7 => by simp [bestP, hch r h0 h7, bestT]
  have hle := time_room (T := T) (r := min (a : Int) b) (r' := max (a : Int) b) (o := orderBy by_ T.length) tb (by omega) (by omega) g2
  have hen := enough_le tb n1 n7
  have hiff := enough_iff (T := T) (a := a) tb ha8
  have ha7 := bestT_room (T := T) (r := (a : Int)) (r' := 7) tb (by omega) (by omega)
  have G7a := G7 (min (a : Int) b) (by omega) (by omega)
  have G7b := G7 (max (a : Int) b) (by omega) (by omega)
  rw [htp _ (by omega) (by omega)] at G7a G7b
  have G9a := G9 7 (by omega) (by omega)
  have G9b := G9 a (by omega) (by omega)
  rw [hbp _ (by omega) (by omega)] at G9a G9b
  rw [hep] at G8
  clear G7 G9
  generalize timeR T (min (a : Int) b) (orderBy by_ T.length) = t1 at *
  generalize timeR T (max (a : Int) b) (orderBy by_ T.length) = t2 at *
  generalize bestT T a = ba at *
  generalize bestT T 7 = b7 at *
  generalize orderBy by_ T.length = gv at *
  generalize enoughN T = en at *
  have hxa : x.tmod 8 = a := by rw [Int.tmod_eq_emod_of_nonneg hx0]; omega
  have hyb : y.tmod 8 = b := by rw [Int.tmod_eq_emod_of_nonneg hy0]; omega
  refine ab_seq_k fun K5 h5 => ?_
  simp [wrap64 (x := x) (by omega) (by omega), wrap64 (x := y) (by omega) (by omega), hxa, hyb]
  refine h5 _ _ _ ?_
  clear h5 K5
  refine ab_seq_k fun K6 h6 => ?_
  simp [take_towC]
  refine callK_of (G6 _) ?_
  simp [take_towC]
  refine h6 _ _ _ ?_
  clear h6 K6
  refine ab_seq_k fun K7 h7 => ?_
  simp [take_towC, pairV]
  refine callK_of (hw _ _) ?_
  simp [take_towC, pairV]
  refine callK_of (G7a _) ?_
  simp [take_towC, pairV]
  refine h7 _ _ _ ?_
  clear h7 K7
  refine ab_seq_k fun K8 h8 => ?_
  simp [take_towC, pairV]
  refine callK_of (hw _ _) ?_
  simp [take_towC, pairV]
  refine callK_of (G7b _) ?_
  simp [take_towC, pairV]
  refine h8 _ _ _ ?_
  clear h8 K8
  refine ab_seq_k fun K9 h9 => ?_
  simp [take_towC, pairV]
  refine callK_of (G8 _) ?_
  simp [take_towC, pairV]
  refine h9 _ _ _ ?_
  clear h9 K9
  refine ab_seq_k fun K10 h10 => ?_
  simp [take_towC, pairV]
  refine callK_of (hw _ _) ?_
  simp [take_towC, pairV]
  refine callK_of (G9a _) ?_
  simp [take_towC, pairV]
  refine h10 _ _ _ ?_
  clear h10 K10
  refine ab_seq_k fun K11 h11 => ?_
  refine ab_seq_k fun K12 h12 => ?_
  have hng : ¬ (t1 < t2) := by omega
  have hen1 : ¬ ((en : Int) < 0) := by omega
  have hen2 : ¬ ((T.length : Int) - 1 < en) := by omega
  simp [get0_towC, hng, hen1, hen2, wrap64 (x := (T.length : Int) - 1) (by omega) (by omega)]
  refine h12 _ _ _ ?_
  clear h12 K12
  refine ab_cond_of rfl (fun h => by cases h) (fun _ => ?_)
  simp
  refine h11 _ _ _ ?_
  clear h11 K11
  refine ab_seq_k fun K13 h13 => ?_
  simp [take_towC, pairV]
  refine callK_of (hw _ _) ?_
  simp [take_towC, pairV]
  refine callK_of (G9b _) ?_
  simp [take_towC, pairV]
  refine h13 _ _ _ ?_
  clear h13 K13
  refine ab_seq_k fun K14 h14 => ?_
  have hge : b7 ≤ ba := by omega
  by_cases he : ba = b7
  · have hke : (en : Int) ≤ a := by have := hiff.1 he; omega
    simp [he, hke]
    refine callK_of (wk _) ?_
    simp
    refine h14 _ _ _ ?_
    simp
    exact fin_of 1 (by simp [rs9])
  · have hke : ¬ (en : Int) ≤ a := fun h => he (hiff.2 (by omega))
    simp [he, hke, hge]
    refine callK_of (wk _) ?_
    simp
    refine h14 _ _ _ ?_
    simp
    exact fin_of 1 (by simp [rs9])
end Go.Ab
