/- Orders: which are valid. -/
import Derived.Test.YtkcfknlpdfgjnaaLB
set_option linter.unusedVariables false
set_option linter.unusedSimpArgs false
set_option maxHeartbeats 4000000
namespace Go.Ab
open Go Go.Proofs

def isOrd (n : Nat) (o : List Int) : Bool := decide (o.length = n ∧ (∀ x ∈ o, 0 ≤ x ∧ x < (n : Int)) ∧ o.Nodup)
/-- Which numbers were seen. -/
def seenL (n : Nat) (l : List Int) : List Int := (List.range n).map fun (k : Nat) => if (k : Int) ∈ l then 1 else 0
@[simp] theorem seenL_len {n l} : (seenL n l).length = n := by simp [seenL]
theorem seenL_get {n l i} (h : i < n) : (seenL n l)[i]? = some (if (i : Int) ∈ l then 1 else 0) := by simp [seenL, h]
theorem seenL_nil {n} : seenL n [] = List.replicate n 0 := by
  apply List.ext_getElem?
  intro i
  by_cases h : i < n
  · rw [seenL_get h, List.getElem?_replicate, if_pos h]; rfl
  · rw [List.getElem?_eq_none (by simp; omega), List.getElem?_eq_none (by simp; omega)]
theorem seenL_set {n l k} (h : k < n) : (seenL n l).set k 1 = seenL n (l ++ [(k : Int)]) := by
  apply List.ext_getElem?
  intro i
  by_cases hi : i < n
  · by_cases hk : i = k
    · subst hk
      rw [List.getElem?_set_self (by simpa using hi), seenL_get hi, if_pos (by simp)]
    · rw [List.getElem?_set_ne (fun e => hk e.symm), seenL_get hi, seenL_get hi]
      have : ((i : Int) ∈ l ++ [(k : Int)]) ↔ (i : Int) ∈ l := by simp; omega
      simp only [this]
  · rw [List.getElem?_eq_none (by simp; omega), List.getElem?_eq_none (by simp; omega)]
theorem rep_ints {n : Nat} : rep n [V.i .i64 0] = ints (List.replicate n 0) := by simp [rep, ints, List.flatten_replicate_singleton]

/-- The first i numbers are all right. -/
def okTo (n : Nat) (o : List Int) (i : Nat) : Prop := (∀ x ∈ o.take i, 0 ≤ x ∧ x < (n : Int)) ∧ (o.take i).Nodup
theorem okTo_zero {n o} : okTo n o 0 := ⟨by simp, by simp⟩
theorem okTo_step {n : Nat} {o : List Int} {i : Nat} {x : Int} (h : okTo n o i) (hx : o[i]? = some x) (h1 : 0 ≤ x) (h2 : x < n) (h3 : x ∉ o.take i) : okTo n o (i + 1) := by
  have e : o.take (i + 1) = o.take i ++ [x] := by rw [List.take_add_one, hx]; rfl
  refine ⟨fun y hy => ?_, ?_⟩
  · rw [e] at hy
    rcases List.mem_append.1 hy with g | g
    · exact h.1 y g
    · simp at g; subst g; exact ⟨h1, h2⟩
  · rw [e, List.nodup_append]
    refine ⟨h.2, by simp, fun a ha b hb => ?_⟩
    simp at hb
    subst hb
    rintro rfl
    exact h3 ha
theorem isOrd_no {n : Nat} {o : List Int} {i : Nat} {x : Int} (hx : o[i]? = some x) (h : x < 0 ∨ (n : Int) ≤ x ∨ x ∈ o.take i) : isOrd n o = false := by
  unfold isOrd
  rw [decide_eq_false_iff_not]
  rintro ⟨h1, h2, h3⟩
  have hm := h2 x (List.mem_of_getElem? hx)
  rcases h with h | h | h
  · omega
  · omega
  · have hlt := (List.getElem?_eq_some_iff.1 hx).1
    have hd : o.drop i = x :: o.drop (i + 1) := by
      rw [List.drop_eq_getElem_cons hlt]
      rw [List.getElem?_eq_getElem hlt] at hx
      rw [Option.some.inj hx]
    have : o = o.take i ++ x :: o.drop (i + 1) := by rw [← hd, List.take_append_drop]
    rw [this] at h3
    exact (List.nodup_append.1 h3).2.2 x h x (List.mem_cons_self ..) rfl
theorem isOrd_yes {n : Nat} {o : List Int} (hl : o.length = n) (h : okTo n o o.length) : isOrd n o = true := by
  unfold isOrd
  rw [decide_eq_true_iff]
  obtain ⟨h1, h2⟩ := h
  rw [List.take_length] at h1 h2
  exact ⟨hl, h1, h2⟩
theorem isOrd_len {n : Nat} {o : List Int} (hl : o.length ≠ n) : isOrd n o = false := by
  unfold isOrd
  rw [decide_eq_false_iff_not]
  exact fun h => hl h.1
theorem isOrd_spec {n : Nat} {o : List Int} (h : isOrd n o = true) : o.length = n ∧ (∀ x ∈ o, 0 ≤ x ∧ x < (n : Int)) ∧ o.Nodup := by
  unfold isOrd at h
  simpa using h

theorem isOrder_ok {n : Nat} {o : List Int} {fo : Bool} (hn : (n : Int) < 1000000) (hl : (o.length : Int) < 9223372036854775808) : FSpec Try.prog 42 [.i .i64 n, sl o fo] [] (.b (isOrd n o)) [] := by
  refine fn42.spec0 mixed noIt_ok ?_
  rw [ic42]
  refine ab_seq_k fun K1 h1 => ?_
  simp
  refine h1 _ _ _ ?_
  clear h1 K1
  refine ab_seq_k fun K2 h2 => ?_
  refine ab_seq_k fun K3 h3 => ?_
  simp
  refine h3 _ _ _ ?_
  clear h3 K3
  refine ab_cond_of rfl (fun hc => ?_) (fun hc => ?_)
  · have hne : o.length ≠ n := by simp at hc; omega
    refine ab_seq_k fun K4 h4 => ?_
    simp
    refine h4 _ _ _ ?_
    clear h4 K4
    simp
    exact fin_of 1 (by simp [rs42, isOrd_len hne])
  have hne : o.length = n := by simp at hc; omega
  simp
  refine h2 _ _ _ ?_
  clear h2 K2
  refine ab_seq_k fun K5 h5 => ?_
  simp
  refine ⟨by omega, by omega, ?_⟩
  refine h5 _ _ _ ?_
  clear h5 K5
  rw [rep_ints, ← seenL_nil]
  refine ab_seq_k fun K6 h6 => ?_
  refine ab_seq_k fun K7 h7 => ?_
  simp
  refine h7 _ _ _ ?_
  clear h7 K7
  refine ab_block_k fun K8 h8 => ?_
  refine ab_loop_k (fun m env σ => ∃ i : Nat, i + m = n ∧ okTo n o i ∧ env = [(0, .i .i64 n), (1, sl o fo), (5, .s 0 0 0 n 1), (6, .i .i64 i)] ∧ σ = [.row 0 (ints (seenL n (o.take i)))]) n ⟨0, by omega, okTo_zero, by simp, by simp⟩ ?_
  rintro m env σ ⟨i, hi, hok, rfl, rfl⟩ K9 h9
  rw [ic42_0]
  refine ab_seq_k fun K10 h10 => ?_
  refine ab_seq_k fun K11 h11 => ?_
  simp
  refine h11 _ _ _ ?_
  clear h11 K11
  refine ab_cond_of rfl (fun hc2 => ?_) (fun hc2 => ?_)
  · have hil : i < o.length := by simpa using hc2
    obtain ⟨x, hx⟩ : ∃ x, o[i]? = some x := ⟨_, List.getElem?_eq_getElem hil⟩
    obtain ⟨hx1, hx2⟩ := List.getElem?_eq_some_iff.1 hx
    simp
    refine h10 _ _ _ ?_
    clear h10 K10
    refine ab_seq_k fun K12 h12 => ?_
    refine ab_block_k fun K13 h13 => ?_
    refine ab_seq_k fun K14 h14 => ?_
    refine ab_seq_k fun K15 h15 => ?_
    have hbad : ∀ env σ, get env 41 = .b true → (x < 0 ∨ (n : Int) ≤ x ∨ x ∈ o.take i) → K15 (some 0) env σ := by
      intro env σ w hb
      refine h15 _ _ _ ?_
      refine ab_cond_of w (fun _ => ?_) (fun h => by cases h)
      refine ab_seq_k fun K16 h16 => ?_
      simp
      refine h16 _ _ _ ?_
      clear h16 K16
      simp
      exact fin_of 1 (by simp [rs42, isOrd_no hx hb])
    by_cases y1 : x < 0
    · simp [hil, hx, hx2, y1]
      exact hbad _ _ rfl (.inl y1)
    by_cases y2 : (n : Int) ≤ x
    · simp [hil, hx, hx2, y1, y2]
      exact hbad _ _ rfl (.inr (.inl y2))
    obtain ⟨k, rfl⟩ : ∃ k : Nat, x = k := ⟨x.toNat, by omega⟩
    have hkn : k < n := by omega
    have hsg := seenL_get (l := o.take i) hkn
    obtain ⟨hs1, hs2⟩ := List.getElem?_eq_some_iff.1 hsg
    by_cases y3 : (k : Int) ∈ o.take i
    · rw [if_pos y3] at hsg hs2
      simp [hil, hx, hx2, y1, y2, hkn, hsg, hs2]
      exact hbad _ _ rfl (.inr (.inr y3))
    · rw [if_neg y3] at hsg hs2
      simp [hil, hx, hx2, y1, y2, hkn, hsg, hs2]
      refine h15 _ _ _ ?_
      refine ab_cond_of rfl (fun h => by cases h) (fun _ => ?_)
      simp
      refine h14 _ _ _ ?_
      clear h14 h15 hbad
      have e : o.take (i + 1) = o.take i ++ [(k : Int)] := by rw [List.take_add_one, hx]; rfl
      simp [hil, hx, hx2, hkn]
      refine h13 _ _ _ ?_
      refine h12 _ _ _ ?_
      simp [wrap64 (x := (i : Int) + 1) (by omega) (by omega)]
      rw [ints_set, seenL_set hkn, ← e]
      exact h9 _ _ _ (again (m - 1) (by omega) ⟨i + 1, by omega, okTo_step hok hx (by omega) (by omega) y3, by simp, rfl⟩)
  · have hil : i = o.length := by simp at hc2; omega
    subst hil
    simp
    refine h8 _ _ _ ?_
    refine h6 _ _ _ ?_
    refine ab_seq_k fun K17 h17 => ?_
    simp
    refine h17 _ _ _ ?_
    clear h17 K17
    simp
    exact fin_of 1 (by simp [rs42, isOrd_yes hne hok])

def ordE (T : Tw) (room : Int) (o : List Int) : Int := if checkTow T room ≠ 0 then checkTow T room else if isOrd T.length o then 0 else 16
/-- The heap that ordered leaves. -/
def hpOrd (T : Tw) (ft : Bool) (room : Int) : List O := [.row 0 (towC T ft room), .row 0 (towC T ft room), .row 0 (towC T ft room), .row 0 (canC T ft room zer7 zer7)]

def ordV (T : Tw) (room : Int) (o : List Int) : V := if ordE T room o = 0 then .tup [.p 3 0 0, .i .i64 0] else .tup [.np, .i .i64 (ordE T room o)]
def ordH (T : Tw) (ft : Bool) (room : Int) (o : List Int) : List O := if ordE T room o = 0 then hpOrd T ft room else [.row 0 (towC T ft room)]
theorem tow_len {T : Tw} {room : Int} (hct : checkTow T room = 0) : 1 ≤ T.length ∧ T.length ≤ 7 ∧ (∀ p ∈ T, (0 ≤ p.1 ∧ p.1 ≤ 1000) ∧ 0 ≤ p.2 ∧ p.2 ≤ 1000) ∧ 0 ≤ room ∧ room ≤ 7 := by
  unfold checkTow at hct
  split at hct
  · cases hct
  · rename_i h1
    split at hct
    · cases hct
    · rename_i h2
      have h1 : fit 1 7 T.length = true := by simpa using h1
      simp only [Bool.or_eq_true, not_or, Bool.not_eq_true, Bool.not_eq_true', Bool.not_eq_false] at h2
      obtain ⟨h2, h3⟩ := h2
      simp only [fit, Bool.and_eq_true, decide_eq_true_eq] at h1 h3
      refine ⟨by omega, by omega, fun p hp => ?_, by omega, by omega⟩
      rw [List.any_eq_false] at h2
      have := h2 p hp
      simp only [oddR, Bool.not_eq_true, Bool.not_eq_false', fit, Bool.and_eq_true, decide_eq_true_eq] at this
      omega

theorem ordered_ok {T : Tw} {ft fo : Bool} {room : Int} {o : List Int} (hl : (T.length : Int) < 1000000000) (hol : (o.length : Int) < 9223372036854775808) :
    FSpec Try.prog 49 [towV T ft room, sl o fo] [.row 0 (towC T ft room)] (ordV T room o) (ordH T ft room o) := by
  refine fn49.spec mixed noIt_ok ?_
  rw [ic49]
  have fin : ∀ {env : Env} {g : List O} {e : Int}, get env 4 = .np → get env 5 = .i .i64 e → ordE T room o = e → e ≠ 0 → finK rs49 [.row 0 (towC T ft room)] (ordV T room o) (ordH T ft room o) (some 0) env (.row 0 (towC T ft room) :: g) := by
    intro env g e w4 w5 hE he
    refine fin_at 3 1 (Nat.le_refl _) (by simp) ?_
    simp [rs49, w4, w5, ordV, ordH, hE, he]
    exact frzS_pureL (base := [O.row 0 (towC T ft room)]) (by simp; exact pureO_row (by simp))
  refine ab_seq_k fun K1 h1 => ?_
  simp
  refine h1 _ _ _ ?_
  clear h1 K1
  by_cases hct : checkTow T room = 0
  · have hE : isOrd T.length o = false → ordE T room o = 16 := fun h => by simp [ordE, hct, h]
    obtain ⟨n1, n7, -, -, -⟩ := tow_len hct
    refine ab_seq_k fun K2 h2 => ?_
    simp [take_towC]
    refine callK_of (open_ok hl hct) ?_
    simp
    refine h2 _ _ _ ?_
    clear h2 K2
    refine ab_seq_k fun K3 h3 => ?_
    refine ab_block_k fun K4 h4 => ?_
    refine ab_seq_k fun K5 h5 => ?_
    simp
    refine h5 _ _ _ ?_
    clear h5 K5
    refine ab_cond_of rfl (fun h => by cases h) (fun _ => ?_)
    refine ab_seq_k fun K6 h6 => ?_
    simp [get0_towC]
    refine h6 _ _ _ ?_
    clear h6 K6
    refine ab_cond_of rfl (fun hc => ?_) (fun hc => ?_)
    · have hne : o.length ≠ T.length := by simp at hc; omega
      refine ab_seq_k fun K7 h7 => ?_
      simp
      refine h7 _ _ _ ?_
      clear h7 K7
      simp
      exact fin rfl rfl (hE (isOrd_len hne)) (by omega)
    have hne : o.length = T.length := by simp at hc; omega
    simp
    refine h4 _ _ _ ?_
    refine h3 _ _ _ ?_
    clear h3 h4 K3 K4
    refine ab_seq_k fun K8 h8 => ?_
    simp
    refine ⟨by omega, by omega, ?_⟩
    refine h8 _ _ _ ?_
    clear h8 K8
    refine ab_seq_k fun K9 h9 => ?_
    simp
    refine ⟨by simp [rep_ints], h9 _ _ _ ?_⟩
    clear h9 K9
    rw [rep_ints, ← seenL_nil]
    refine ab_seq_k fun K10 h10 => ?_
    refine ab_seq_k fun K11 h11 => ?_
    simp
    refine h11 _ _ _ ?_
    clear h11 K11
    refine ab_block_k fun K12 h12 => ?_
    refine ab_loop_k (fun m env σ => ∃ i : Nat, i + m = o.length ∧ okTo T.length o i ∧ env = [(1, sl o fo), (6, .p 3 0 0), (8, .s 4 0 0 o.length 1), (31, sl o fo), (32, .i .i64 o.length), (33, .i .i64 i)] ∧ σ = hpOrd T ft room ++ [.row 0 (ints (seenL o.length (o.take i)))]) o.length
      ⟨0, by omega, okTo_zero, by simp, by simp [hpOrd]⟩ ?_
    rintro m env σ ⟨i, hi, hok, rfl, rfl⟩ K13 h13
    rw [ic49_0]
    refine ab_seq_k fun K14 h14 => ?_
    simp
    refine h14 _ _ _ ?_
    clear h14 K14
    refine ab_seq_k fun K15 h15 => ?_
    refine ab_cond_of rfl (fun hc2 => ?_) (fun hc2 => ?_)
    · have hil : i < o.length := by simpa using hc2
      obtain ⟨x, hx⟩ : ∃ x, o[i]? = some x := ⟨_, List.getElem?_eq_getElem hil⟩
      obtain ⟨hx1, hx2⟩ := List.getElem?_eq_some_iff.1 hx
      simp
      refine h15 _ _ _ ?_
      clear h15 K15
      refine ab_seq_k fun K16 h16 => ?_
      refine ab_block_k fun K17 h17 => ?_
      refine ab_seq_k fun K18 h18 => ?_
      simp [hil, hx, hx2]
      refine h18 _ _ _ ?_
      clear h18 K18
      refine ab_seq_k fun K19 h19 => ?_
      refine ab_seq_k fun K20 h20 => ?_
      have hbad : ∀ env, get env 50 = .b true → (x < 0 ∨ (T.length : Int) ≤ x ∨ x ∈ o.take i) → K20 (some 0) env (hpOrd T ft room ++ [.row 0 (ints (seenL o.length (o.take i)))]) := by
        intro env w hb
        refine h20 _ _ _ ?_
        refine ab_cond_of w (fun _ => ?_) (fun h => by cases h)
        refine ab_seq_k fun K21 h21 => ?_
        simp
        refine h21 _ _ _ ?_
        clear h21 K21
        simp
        exact fin rfl rfl (hE (isOrd_no hx hb)) (by omega)
      simp [wrap64 (x := (o.length : Int) - 1) (by omega) (by omega)]
      refine callK_of within0 ?_
      by_cases y1 : fit 0 ((o.length : Int) - 1) x = true
      · have y1' : 0 ≤ x ∧ x ≤ (o.length : Int) - 1 := by simpa [fit] using y1
        obtain ⟨k, rfl⟩ : ∃ k : Nat, x = k := ⟨x.toNat, by omega⟩
        have hkn : k < o.length := by omega
        have hsg := seenL_get (l := o.take i) hkn
        obtain ⟨hs1, hs2⟩ := List.getElem?_eq_some_iff.1 hsg
        by_cases y3 : (k : Int) ∈ o.take i
        · rw [if_pos y3] at hsg hs2
          simp [y1, hkn, hsg, hs2, hpOrd]
          exact hbad _ rfl (.inr (.inr y3))
        · rw [if_neg y3] at hsg hs2
          simp [y1, hkn, hsg, hs2, hpOrd]
          refine h20 _ _ _ ?_
          refine ab_cond_of rfl (fun h => by cases h) (fun _ => ?_)
          simp
          refine h19 _ _ _ ?_
          clear h19 h20 hbad
          have e : o.take (i + 1) = o.take i ++ [(k : Int)] := by rw [List.take_add_one, hx]; rfl
          simp [hkn, hsg, hs2, wrap64 (x := (1 : Int)) (by omega) (by omega)]
          refine h17 _ _ _ ?_
          refine h16 _ _ _ ?_
          simp [wrap64 (x := (i : Int) + 1) (by omega) (by omega)]
          rw [ints_set, seenL_set hkn, ← e]
          exact h13 _ _ _ (again (m - 1) (by omega) ⟨i + 1, by omega, okTo_step hok hx (by omega) (by omega) y3, by simp, rfl⟩)
      · have y1' : fit 0 ((o.length : Int) - 1) x = false := by simpa using y1
        simp [y1']
        refine hbad _ rfl ?_
        rw [← hne]
        have : ¬ (0 ≤ x ∧ x ≤ (o.length : Int) - 1) := by intro h; apply y1; simp [fit, h]
        omega
    · have hil : i = o.length := by simp at hc2; omega
      subst hil
      have hO : ordE T room o = 0 := by simp [ordE, hct, isOrd_yes hne (by rw [← hne] at hok ⊢; exact hok)]
      simp
      refine h12 _ _ _ ?_
      refine h10 _ _ _ ?_
      refine ab_seq_k fun K22 h22 => ?_
      simp
      refine h22 _ _ _ ?_
      clear h22 K22
      simp
      refine fin_at 3 4 (by simp) (by simp [hpOrd]) ?_
      simp [rs49, ordV, ordH, hO]
      exact frzS_pureL (base := hpOrd T ft room) (by intro q hq; simp [hpOrd] at hq; rcases hq with rfl | rfl <;> exact pureO_row (by simp))
  · have hE : ordE T room o = checkTow T room := by simp [ordE, hct]
    refine ab_seq_k fun K2 h2 => ?_
    simp [take_towC]
    refine callK_of (open_no hl hct) ?_
    simp
    refine h2 _ _ _ ?_
    clear h2 K2
    refine ab_seq_k fun K3 h3 => ?_
    refine ab_block_k fun K4 h4 => ?_
    refine ab_seq_k fun K5 h5 => ?_
    simp
    refine h5 _ _ _ ?_
    clear h5 K5
    refine ab_cond_of rfl (fun _ => ?_) (fun h => by simp [hct] at h)
    refine ab_seq_k fun K7 h7 => ?_
    simp
    refine h7 _ _ _ ?_
    clear h7 K7
    simp
    exact fin rfl rfl hE hct
end Go.Ab
