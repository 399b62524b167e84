/- Tows, and orders: which are valid. -/
import Derived.Test.YtkcfknlpdfgjnaaLA
set_option linter.unusedVariables false
set_option linter.unusedSimpArgs false
set_option maxHeartbeats 4000000
namespace Go.Ab
open Go Go.Proofs

@[simp] theorem get_del_ne : ∀ {env : Env} {s t : Nat}, s ≠ t → get (del env s) t = get env t
  | [], s, t, h => rfl
  | (u, v) :: r, s, t, h => by
    by_cases hu : u = s
    · subst hu
      rw [del_eq, get_ne h, get_del_ne h]
    · rw [del_ne hu]
      by_cases ht : u = t
      · subst ht; rw [get_eq, get_eq]
      · rw [get_ne ht, get_ne ht, get_del_ne h]
theorem fit_not {lo hi x : Int} : (!fit lo hi x) = (decide (x < lo) || decide (hi < x)) := by
  unfold fit
  by_cases h1 : x < lo <;> by_cases h2 : hi < x <;> simp [h1, h2] <;> omega
def oddR (p : Int × Int) : Bool := !(fit 0 1000 p.1 && fit 0 1000 p.2)
theorem odd_is {p : Int × Int} : oddR p = (decide (p.1 < 0) || decide (1000 < p.1) || (decide (p.2 < 0) || decide (1000 < p.2))) := by
  unfold oddR
  rw [Bool.not_and, fit_not, fit_not]

abbrev Tw := List (Int × Int)
def towC (T : Tw) (ft : Bool) (room : Int) : List V := [slL T ft, .i .i64 room]
abbrev towV (T : Tw) (ft : Bool) (room : Int) : V := .agg (towC T ft room)
@[simp] theorem pure_towC {T ft room} : pureL (towC T ft room) = true := by simp [towC]
@[simp] theorem len_towC {T ft room} : (towC T ft room).length = 2 := rfl
theorem take_towC {T ft room} : List.take 2 (towC T ft room) = towC T ft room := rfl
theorem get0_towC {T ft room} : (towC T ft room)[0]? = some (slL T ft) := rfl
theorem get1_towC {T ft room} : (towC T ft room)[1]? = some (.i .i64 room) := rfl

def checkTow (T : Tw) (room : Int) : Int := if !fit 1 7 T.length then 6 else if T.any oddR || !fit 0 7 room then 3 else 0

theorem great_ok {T : Tw} {ft : Bool} {room : Int} : FSpec Try.prog 15 [towV T ft room] [] (.b (decide ((12 : Int) < T.length))) [] := by
  refine fn15.spec0 mixed noIt_ok ?_
  rw [ic15]
  refine ab_seq_k fun K1 h1 => ?_
  simp
  refine h1 _ _ _ ?_
  clear h1 K1
  refine ab_seq_k fun K2 h2 => ?_
  simp [get0_towC]
  refine h2 _ _ _ ?_
  clear h2 K2
  simp
  exact fin_of 1 (by simp [rs15])

theorem odd52 {x y : Int} : FSpec Try.prog 52 [.agg [.i .i64 x, .i .i64 y]] [] (.b (oddR (x, y))) [] := by
  refine fn52.spec0 mixed noIt_ok ?_
  rw [ic52]
  have hw := fun σ => FSpec.frame (σ := σ) (within (l := [x, y]) (full := true) (lo := 0) (hi := 1000) (by simp)) (by simp) rfl
  have e : ([x, y].all fun x => decide ((0 : Int) ≤ x) && decide (x ≤ 1000)) = (fit 0 1000 x && fit 0 1000 y) := by simp [fit]
  rw [e] at hw
  refine ab_seq_k fun K1 h1 => ?_
  simp
  refine h1 _ _ _ ?_
  clear h1 K1
  refine ab_seq_k fun K2 h2 => ?_
  simp
  refine callK_of (hw _) ?_
  simp
  refine h2 _ _ _ ?_
  clear h2 K2
  simp
  exact fin_of 1 (by simp [rs52, oddR])

theorem checkTow_ok {T : Tw} {ft : Bool} {room : Int} (hl : (T.length : Int) < 1000000000) : FSpec Try.prog 21 [towV T ft room] [] (.i .i64 (checkTow T room)) [] := by
  refine fn21.spec0 mixed noIt_ok ?_
  rw [ic21]
  have hodd := fun σ => FSpec.frame (σ := σ) (containsFuncL (l := T) (full := ft) (g := 52) (first := []) (cap := []) (p := oddR) (fun x => by simpa using odd52) hl) (by simp) rfl
  refine ab_seq_k fun K1 h1 => ?_
  simp
  refine h1 _ _ _ ?_
  clear h1 K1
  refine ab_seq_k fun K2 h2 => ?_
  simp
  refine h2 _ _ _ ?_
  clear h2 K2
  refine ab_seq_k fun K3 h3 => ?_
  refine ab_block_k fun K4 h4 => ?_
  refine ab_seq_k fun K5 h5 => ?_
  simp [get0_towC]
  refine callK_of (within0) ?_
  simp [get0_towC]
  refine h5 _ _ _ ?_
  clear h5 K5
  refine ab_cond_of rfl (fun hc => ?_) (fun hc => ?_)
  · have hf : fit 1 7 T.length = false := by simpa using hc
    refine ab_seq_k fun K6 h6 => ?_
    simp
    refine h6 _ _ _ ?_
    clear h6 K6
    simp
    exact fin_of 1 (by simp [rs21, checkTow, hf])
  · have hf : fit 1 7 T.length = true := by simpa using hc
    refine ab_seq_k fun K7 h7 => ?_
    simp [get0_towC]
    refine callK_of (hodd _) ?_
    have hK7 : ∀ env v, get env 11 = .b v → v = (T.any oddR || !fit 0 7 room) → K7 (some 0) env [.row 0 (towC T ft room)] := by
      intro env v w hv
      refine h7 _ _ _ ?_
      refine ab_cond_of w (fun hc2 => ?_) (fun hc2 => ?_)
      · refine ab_seq_k fun K8 h8 => ?_
        simp
        refine h8 _ _ _ ?_
        clear h8 K8
        simp
        exact fin_of 1 (by simp [rs21, checkTow, hf, ← hv, hc2])
      · simp
        refine h4 _ _ _ ?_
        refine h3 _ _ _ ?_
        refine ab_seq_k fun K9 h9 => ?_
        simp
        refine h9 _ _ _ ?_
        clear h9 K9
        simp
        exact fin_of 1 (by simp [rs21, checkTow, hf, ← hv, hc2])
    cases ho : T.any oddR with
    | true =>
      simp
      exact hK7 _ true rfl (by simp [ho])
    | false =>
      simp [get1_towC]
      refine callK_of within0 ?_
      simp
      exact hK7 _ _ rfl (by simp [ho])

/-- A slice of whole numbers, frozen or not. -/
def SlI (σ : List O) (v : V) (l : List Int) : Prop := (∃ f, v = sl l f) ∨ ∃ id ver, v = .s id ver 0 l.length 1 ∧ σ[id]? = some (.row ver (ints l))
def PtI (σ : List O) (a : V) (x : Int) : Prop := ∀ C : Ct, C (.i .i64 x) σ → ld1C a σ C
theorem SlI.ss {σ : List O} {l : List Int} {f : Bool} : SlI σ (sl l f) l := .inl ⟨f, rfl⟩
theorem lenI {σ : List O} {v : V} {l : List Int} {C : Ct} (h : SlI σ v l) (hC : C (.i .i64 l.length) σ) : lenC v σ C := by
  rcases h with ⟨f, rfl⟩ | ⟨id, ver, rfl, hs⟩
  · simpa using hC
  · simp only [lenC, lenK, liveV, hs]
    exact ⟨rfl, hC⟩
theorem ixsI {σ : List O} {v : V} {l : List Int} {i : Nat} {x : Int} {C : Ct} (h : SlI σ v l) (hx : l[i]? = some x) (hC : ∀ a, PtI σ a x → C a σ) : ixsC 1 v (.i .i64 i) σ C := by
  have hlt := (List.getElem?_eq_some_iff.1 hx).1
  rcases h with ⟨f, rfl⟩ | ⟨id, ver, rfl, hs⟩
  · simp [hlt]
    refine hC _ fun C hC' => ?_
    simp [hx]
    exact hC'
  · simp [hs, hlt]
    refine hC _ fun C hC' => ?_
    simp [hs, hx]
    exact hC'
theorem refTow {T : Tw} {ft : Bool} {room : Int} (hl : (T.length : Int) < 1000000000) : FSpec Try.prog 22 [towV T ft room] [] (.i .i64 (checkTow T room)) [] := by
  refine fn22.spec0 mixed noIt_ok ?_
  rw [ic22]
  refine ab_seq_k fun K1 h1 => ?_
  simp
  refine h1 _ _ _ ?_
  clear h1 K1
  refine ab_seq_k fun K2 h2 => ?_
  refine ab_seq_k fun K3 h3 => ?_
  have hK3 : ∀ env v, get env 1 = .p 0 0 0 → get env 14 = .b v → v = (!fit 1 7 T.length) → K3 (some 0) env [.row 0 (towC T ft room)] := by
    intro env v w1 w hv
    refine h3 _ _ _ ?_
    clear h3 K3
    refine ab_cond_of w (fun hc => ?_) (fun hc => ?_)
    · refine ab_seq_k fun K4 h4 => ?_
      simp
      refine h4 _ _ _ ?_
      clear h4 K4
      simp
      exact fin_of 1 (by simp [rs22, checkTow, ← hv, hc])
    rw [hc] at hv
    have hf : fit 1 7 T.length = true := by simpa using hv.symm
    simp
    refine h2 _ _ _ ?_
    clear h2 K2
    refine ab_seq_k fun K5 h5 => ?_
    refine ab_seq_k fun K6 h6 => ?_
    simp [w1]
    refine h6 _ _ _ ?_
    clear h6 K6
    refine ab_block_k fun K7 h7 => ?_
    refine ab_loop_k (fun m env σ => ∃ i : Nat, i + m = T.length ∧ (T.take i).any oddR = false ∧ env = [(1, .p 0 0 0), (3, .i .i64 i)] ∧ σ.take 1 = [.row 0 (towC T ft room)]) T.length ⟨0, by omega, by simp, by simp [w1], by simp⟩ ?_
    rintro m env σ ⟨i, hi, hpre, rfl, hσ⟩ K8 h8
    rw [ic22_0]
    obtain ⟨g, rfl⟩ : ∃ g, σ = .row 0 (towC T ft room) :: g := by
      cases σ with
      | nil => simp at hσ
      | cons a g => simp at hσ; exact ⟨g, by rw [hσ]⟩
    refine ab_seq_k fun K9 h9 => ?_
    refine ab_seq_k fun K10 h10 => ?_
    simp [get0_towC]
    refine h10 _ _ _ ?_
    clear h10 K10
    refine ab_cond_of rfl (fun hc2 => ?_) (fun hc2 => ?_)
    · have hil : i < T.length := by simpa using hc2
      obtain ⟨p, hp⟩ : ∃ p, T[i]? = some p := ⟨_, List.getElem?_eq_getElem hil⟩
      obtain ⟨x1, x2, x3⟩ := lsV_get hp
      have hstep : (T.take (i + 1)).any oddR = oddR p := by rw [List.take_add_one, hp]; simp [hpre]
      simp
      refine h9 _ _ _ ?_
      clear h9 K9
      refine ab_seq_k fun K11 h11 => ?_
      refine ab_block_k fun K12 h12 => ?_
      have hm2 : min 2 (T.length * 2 - i * 2) = 2 := by omega
      have hle : i * 2 + 2 ≤ T.length * 2 := by omega
      refine ab_seq_k fun K13 h13 => ?_
      simp [get0_towC, hil, x1, hm2, hle]
      refine h13 _ _ _ ?_
      clear h13 K13
      refine ab_seq_k fun K14 h14 => ?_
      have hK14 : ∀ env v, get env 1 = .p 0 0 0 → get env 3 = .i .i64 i → get env 44 = .b v → v = oddR p → K14 (some 0) env (.row 0 (towC T ft room) :: (g ++ [.row 0 [.i .i64 p.1, .i .i64 p.2]])) := by
        intro env v w1 w3 w hv
        refine h14 _ _ _ ?_
        refine ab_cond_of w (fun hc3 => ?_) (fun hc3 => ?_)
        · have hany : T.any oddR = true := List.any_eq_true.2 ⟨p, List.mem_of_getElem? hp, by rw [← hv, hc3]⟩
          refine ab_seq_k fun K15 h15 => ?_
          simp
          refine h15 _ _ _ ?_
          clear h15 K15
          simp
          exact fin_of 1 (by simp [rs22, checkTow, hf, hany])
        · simp
          refine h12 _ _ _ ?_
          refine h11 _ _ _ ?_
          simp [w1, w3, wrap64 (x := (i : Int) + 1) (by omega) (by omega)]
          exact h8 _ _ _ (again (m - 1) (by omega) ⟨i + 1, by omega, by rw [hstep, ← hv, hc3], by simp [w1], by simp⟩)
      by_cases y1 : p.1 < 0 <;> by_cases y2 : 1000 < p.1 <;> by_cases y3 : p.2 < 0 <;> by_cases y4 : 1000 < p.2 <;> simp [y1, y2, y3, y4] <;> exact hK14 _ _ rfl rfl rfl (by rw [odd_is]; simp [y1, y2, y3, y4])
    · have hil : i = T.length := by simp at hc2; omega
      subst hil
      rw [List.take_length] at hpre
      simp
      refine h7 _ _ _ ?_
      refine h5 _ _ _ ?_
      clear h5 h7 h8 h9 K5 K7 K8 K9
      refine ab_seq_k fun K16 h16 => ?_
      refine ab_seq_k fun K17 h17 => ?_
      have hK17 : ∀ env v, get env 52 = .b v → v = (!fit 0 7 room) → K17 (some 0) env (.row 0 (towC T ft room) :: g) := by
        intro env v w hv
        refine h17 _ _ _ ?_
        refine ab_cond_of w (fun hc3 => ?_) (fun hc3 => ?_)
        · refine ab_seq_k fun K18 h18 => ?_
          simp
          refine h18 _ _ _ ?_
          clear h18 K18
          simp
          exact fin_of 1 (by simp [rs22, checkTow, hf, hpre, ← hv, hc3])
        · simp
          refine h16 _ _ _ ?_
          refine ab_seq_k fun K19 h19 => ?_
          simp
          refine h19 _ _ _ ?_
          clear h19 K19
          simp
          exact fin_of 1 (by simp [rs22, checkTow, hf, hpre, ← hv, hc3])
      by_cases y1 : room < 0 <;> simp [get1_towC, y1] <;> exact hK17 _ _ rfl (by rw [fit_not]; simp [y1])
  by_cases y1 : (T.length : Int) < 1 <;> simp [get0_towC, y1] <;> exact hK3 _ _ rfl rfl (by rw [fit_not]; simp [y1])

/-- A canal: the tow, and both rows of seven. -/
def canC (T : Tw) (ft : Bool) (room : Int) (S H : List Int) : List V := slL T ft :: .i .i64 room :: (ints S ++ ints H)
@[simp] theorem pure_canC {T ft room S H} : pureL (canC T ft room S H) = true := by
  rw [pureL_all]
  intro v hv
  simp only [canC, List.mem_cons, List.mem_append] at hv
  rcases hv with rfl | rfl | h | h
  · exact pure_slL
  · rfl
  · exact pureL_all.1 pure_ints v h
  · exact pureL_all.1 pure_ints v h
def zer7 : List Int := [0, 0, 0, 0, 0, 0, 0]

theorem open_ok {T : Tw} {ft : Bool} {room : Int} {σ : List O} (hl : (T.length : Int) < 1000000000) (h : checkTow T room = 0) :
    FSpec Try.prog 55 [towV T ft room] σ (.tup [.p (σ.length + 1) 0 0, .i .i64 0]) (σ ++ [.row 0 (towC T ft room), .row 0 (canC T ft room zer7 zer7)]) := by
  refine fn55.spec mixed noIt_ok ?_
  rw [ic55]
  have hc := fun σ => FSpec.frame (σ := σ) (checkTow_ok (T := T) (ft := ft) (room := room) hl) (by simp) rfl
  rw [h] at hc
  refine ab_seq_k fun K1 h1 => ?_
  simp
  refine h1 _ _ _ ?_
  clear h1 K1
  refine ab_seq_k fun K2 h2 => ?_
  refine ab_seq_k fun K3 h3 => ?_
  simp [take_towC]
  refine callK_of (hc _) ?_
  simp [take_towC]
  refine h3 _ _ _ ?_
  clear h3 K3
  refine ab_seq_k fun K4 h4 => ?_
  simp
  refine h4 _ _ _ ?_
  clear h4 K4
  refine ab_cond_of rfl (fun h => by cases h) (fun _ => ?_)
  simp
  refine h2 _ _ _ ?_
  clear h2 K2
  refine ab_seq_k fun K5 h5 => ?_
  simp [take_towC]
  refine h5 _ _ _ ?_
  clear h5 K5
  simp
  refine fin_all ?_
  simp [rs55, towC, canC, zer7, ints]
theorem open_no {T : Tw} {ft : Bool} {room : Int} {σ : List O} (hl : (T.length : Int) < 1000000000) (h : checkTow T room ≠ 0) :
    FSpec Try.prog 55 [towV T ft room] σ (.tup [.np, .i .i64 (checkTow T room)]) (σ ++ [.row 0 (towC T ft room)]) := by
  refine fn55.spec mixed noIt_ok ?_
  rw [ic55]
  have hc := fun σ => FSpec.frame (σ := σ) (checkTow_ok (T := T) (ft := ft) (room := room) hl) (by simp) rfl
  refine ab_seq_k fun K1 h1 => ?_
  simp
  refine h1 _ _ _ ?_
  clear h1 K1
  refine ab_seq_k fun K2 h2 => ?_
  refine ab_seq_k fun K3 h3 => ?_
  simp [take_towC]
  refine callK_of (hc _) ?_
  simp [take_towC]
  refine h3 _ _ _ ?_
  clear h3 K3
  refine ab_seq_k fun K4 h4 => ?_
  simp
  refine h4 _ _ _ ?_
  clear h4 K4
  refine ab_cond_of rfl (fun _ => ?_) (fun h' => by simp [h] at h')
  refine ab_seq_k fun K5 h5 => ?_
  simp
  refine h5 _ _ _ ?_
  clear h5 K5
  simp
  refine fin_all ?_
  simp [rs55]
end Go.Ab
