import Derived.Test.YtgndegccjhdmmaaGreatKM
import Derived.Test.YtgndegccjhdmmaaGreatJZ
/-! KN: made of KN KO -/
section
/- Comparisons: numbers, lists, sets of logs. SortFunc. -/
set_option linter.unusedVariables false
set_option linter.unusedSimpArgs false
set_option maxHeartbeats 4000000
set_option maxRecDepth 100000
namespace Go.Ab
open Go Go.Proofs

def cmpI (x y : Int) : Int := if x < y then -1 else if y < x then 1 else 0
def lexC : List Int → List Int → Int
  | [], [] => 0
  | [], _ :: _ => -1
  | _ :: _, [] => 1
  | a :: at_, b :: bt_ => if a < b then -1 else if b < a then 1 else lexC at_ bt_
/-- A list before another one. -/
def lexL : List Int → List Int → Bool
  | [], [] => false
  | [], _ :: _ => true
  | _ :: _, [] => false
  | a :: at_, b :: bt_ => if a < b then true else if b < a then false else lexL at_ bt_
theorem lexC_lt : ∀ {a b : List Int}, decide (lexC a b < 0) = lexL a b
  | [], [] => rfl
  | [], _ :: _ => rfl
  | _ :: _, [] => rfl
  | a :: at_, b :: bt_ => by
    simp only [lexC, lexL]
    split
    · rfl
    · split
      · rfl
      · exact lexC_lt
theorem lexL_irr : ∀ {a : List Int}, lexL a a = false
  | [] => rfl
  | a :: at_ => by simp [lexL, lexL_irr]
theorem lexL_asym : ∀ {a b : List Int}, lexL a b = true → lexL b a = false
  | [], [], h => rfl
  | [], _ :: _, h => rfl
  | _ :: _, [], h => by cases h
  | a :: at_, b :: bt_, h => by
    simp only [lexL] at h ⊢
    split at h
    · rw [if_neg (by omega), if_pos (by omega)]
    · split at h
      · cases h
      · rw [if_neg (by omega), if_neg (by omega)]; exact lexL_asym h
theorem lexL_tri : ∀ {a b : List Int}, lexL a b = false → lexL b a = false → a = b
  | [], [], _, _ => rfl
  | [], _ :: _, h, _ => by cases h
  | _ :: _, [], _, h => by cases h
  | a :: at_, b :: bt_, h1, h2 => by
    simp only [lexL] at h1 h2
    by_cases c1 : a < b
    · rw [if_pos c1] at h1; cases h1
    · by_cases c2 : b < a
      · rw [if_pos c2] at h2; cases h2
      · rw [if_neg c1, if_neg c2] at h1
        rw [if_neg c2, if_neg c1] at h2
        rw [lexL_tri h1 h2, show a = b by omega]
theorem lexL_trans : ∀ {a b c : List Int}, lexL a b = true → lexL b c = true → lexL a c = true
  | [], [], _, h, _ => by cases h
  | [], _ :: _, [], _, h => by cases h
  | [], _ :: _, _ :: _, _, _ => rfl
  | _ :: _, [], _, h, _ => by cases h
  | _ :: _, _ :: _, [], _, h => by cases h
  | a :: at_, b :: bt_, c :: ct_, h1, h2 => by
    simp only [lexL] at h1 h2 ⊢
    by_cases c1 : a < b
    · by_cases c2 : b < c
      · rw [if_pos (by omega)]
      · rw [if_neg c2] at h2
        by_cases c3 : c < b
        · rw [if_pos c3] at h2; cases h2
        · rw [if_pos (by omega)]
    · rw [if_neg c1] at h1
      by_cases c2 : b < a
      · rw [if_pos c2] at h1; cases h1
      · rw [if_neg c2] at h1
        by_cases c3 : b < c
        · rw [if_pos (by omega)]
        · rw [if_neg c3] at h2
          by_cases c4 : c < b
          · rw [if_pos c4] at h2; cases h2
          · rw [if_neg c4] at h2
            rw [if_neg (by omega), if_neg (by omega)]
            exact lexL_trans h1 h2
/-- Of a strict order that is total. -/
theorem ntr_of {α : Type} {r : α → α → Bool} (has : ∀ a b, r a b = true → r b a = false) (htri : ∀ a b, r a b = false → r b a = false → a = b) (htr : ∀ a b c, r a b = true → r b c = true → r a c = true) {a b c : α} (h1 : r a b = false) (h2 : r b c = false) : r a c = false := by
  cases h3 : r b a with
  | false => rw [htri a b h1 h3]; exact h2
  | true =>
    cases h4 : r c b with
    | false => rw [← htri b c h2 h4]; exact h1
    | true => exact has _ _ (htr _ _ _ h4 h3)
theorem lexL_ntr {a b c : List Int} (h1 : lexL a b = false) (h2 : lexL b c = false) : lexL a c = false := ntr_of (fun _ _ => lexL_asym) (fun _ _ => lexL_tri) (fun _ _ _ => lexL_trans) h1 h2

theorem nan120 {x : Int} {σ : List O} : FSpec Tryz.prog 120 [.i .i64 x] σ (.b false) σ := by
  refine FSpec.frame (σ := σ) ?_ rfl rfl
  refine fn120.spec0 mixed noIt_ok ?_
  rw [ic120]
  refine ab_seq_k fun K1 h1 => ?_
  simp
  refine h1 _ _ _ ?_
  clear h1 K1
  refine ab_seq_k fun K2 h2 => ?_
  simp
  refine h2 _ _ _ ?_
  clear h2 K2
  simp
  exact fin_of 1 (by simp [rs120])
theorem cmp105 {x y : Int} {σ : List O} : FSpec Tryz.prog 105 [.i .i64 x, .i .i64 y] σ (.i .i64 (cmpI x y)) σ := by
  refine FSpec.frame (σ := σ) ?_ rfl rfl
  refine fn105.spec0 mixed noIt_ok ?_
  rw [ic105]
  refine ab_seq_k fun K1 h1 => ?_
  simp
  refine h1 _ _ _ ?_
  clear h1 K1
  refine ab_seq_k fun K2 h2 => ?_
  simp
  refine callK_of (nan120) ?_
  simp
  refine h2 _ _ _ ?_
  clear h2 K2
  refine ab_seq_k fun K3 h3 => ?_
  simp
  refine callK_of (nan120) ?_
  simp
  refine h3 _ _ _ ?_
  clear h3 K3
  refine ab_seq_k fun K4 h4 => ?_
  refine ab_seq_k fun K5 h5 => ?_
  simp
  refine h5 _ _ _ ?_
  clear h5 K5
  refine ab_cond_of rfl (fun h => by cases h) (fun _ => ?_)
  simp
  refine h4 _ _ _ ?_
  clear h4 K4
  refine ab_seq_k fun K4 h4 => ?_
  refine ab_seq_k fun K5 h5 => ?_
  simp
  refine h5 _ _ _ ?_
  clear h5 K5
  refine ab_cond_of rfl (fun h => by cases h) (fun _ => ?_)
  simp
  refine h4 _ _ _ ?_
  clear h4 K4
  refine ab_seq_k fun K4 h4 => ?_
  refine ab_seq_k fun K5 h5 => ?_
  simp
  refine h5 _ _ _ ?_
  clear h5 K5
  by_cases c1 : x < y
  · refine ab_cond_of rfl (fun _ => ?_) (fun h => by simp [c1] at h)
    refine ab_seq_k fun K6 h6 => ?_
    simp
    refine h6 _ _ _ ?_
    clear h6 K6
    simp
    exact fin_of 1 (by simp [rs105, cmpI, c1])
  · refine ab_cond_of rfl (fun h => by simp [c1] at h) (fun _ => ?_)
    simp
    refine h4 _ _ _ ?_
    clear h4 K4
    refine ab_seq_k fun K4 h4 => ?_
    refine ab_seq_k fun K5 h5 => ?_
    simp
    refine h5 _ _ _ ?_
    clear h5 K5
    by_cases c2 : y < x
    · refine ab_cond_of rfl (fun _ => ?_) (fun h => by simp [c2] at h)
      refine ab_seq_k fun K6 h6 => ?_
      simp
      refine h6 _ _ _ ?_
      clear h6 K6
      simp
      exact fin_of 1 (by simp [rs105, cmpI, c1, c2])
    · refine ab_cond_of rfl (fun h => by simp [c2] at h) (fun _ => ?_)
      simp
      refine h4 _ _ _ ?_
      refine ab_seq_k fun K6 h6 => ?_
      simp
      refine h6 _ _ _ ?_
      clear h6 K6
      simp
      exact fin_of 1 (by simp [rs105, cmpI, c1, c2])
theorem lex106 {a b : List Int} {fa fb : Bool} {σ : List O} (ha : (a.length : Int) < 1000000000) : FSpec Tryz.prog 106 [sl a fa, sl b fb] σ (.i .i64 (lexC a b)) σ := by
  refine FSpec.frame (σ := σ) ?_ (by simp) rfl
  refine fn106.spec0 mixed noIt_ok ?_
  rw [ic106]
  refine ab_seq_k fun K1 h1 => ?_
  simp
  refine h1 _ _ _ ?_
  clear h1 K1
  refine ab_seq_k fun K2 h2 => ?_
  refine ab_seq_k fun K3 h3 => ?_
  simp
  refine h3 _ _ _ ?_
  clear h3 K3
  refine ab_block_k fun K4 h4 => ?_
  refine ab_loop_k (fun m env σ => ∃ i : Nat, i + m = a.length ∧ lexC a b = lexC (a.drop i) (b.drop i) ∧ i ≤ b.length ∧ env = [(0, sl a fa), (1, sl b fb), (9, sl a fa), (10, .i .i64 a.length), (11, .i .i64 i)] ∧ σ = []) a.length ⟨0, by omega, by simp, by omega, by simp, rfl⟩ ?_
  rintro m env σ ⟨i, hi, hd, hib, rfl, rfl⟩ K5 h5
  rw [ic106_0]
  refine ab_seq_k fun K6 h6 => ?_
  simp
  refine h6 _ _ _ ?_
  clear h6 K6
  refine ab_seq_k fun K7 h7 => ?_
  refine ab_cond_of rfl (fun hc => ?_) (fun hc => ?_)
  · have hil : i < a.length := by simpa using hc
    obtain ⟨a1, a2, -⟩ := getD_get hil
    rw [List.drop_eq_getElem_cons hil, a2] at hd
    generalize a.getD i 0 = x at *
    simp
    refine h7 _ _ _ ?_
    clear h7 K7
    refine ab_seq_k fun K8 h8 => ?_
    refine ab_block_k fun K9 h9 => ?_
    refine ab_seq_k fun K10 h10 => ?_
    simp [hil, a1, a2]
    refine h10 _ _ _ ?_
    clear h10 K10
    refine ab_seq_k fun K11 h11 => ?_
    refine ab_seq_k fun K12 h12 => ?_
    simp
    refine h12 _ _ _ ?_
    clear h12 K12
    by_cases hbl : i < b.length
    · obtain ⟨b1, b2, -⟩ := getD_get hbl
      rw [List.drop_eq_getElem_cons hbl, b2] at hd
      generalize b.getD i 0 = y at *
      refine ab_cond_of rfl (fun h => by simp at h; omega) (fun _ => ?_)
      simp
      refine h11 _ _ _ ?_
      clear h11 K11
      refine ab_seq_k fun K13 h13 => ?_
      simp [hbl, b1, b2]
      refine h13 _ _ _ ?_
      clear h13 K13
      refine ab_seq_k fun K14 h14 => ?_
      simp
      refine callK_of (cmp105) ?_
      simp
      refine h14 _ _ _ ?_
      clear h14 K14
      refine ab_seq_k fun K15 h15 => ?_
      simp
      refine h15 _ _ _ ?_
      clear h15 K15
      simp only [lexC] at hd
      by_cases c1 : x < y
      · rw [if_pos c1] at hd
        have hcv : cmpI x y = -1 := by simp [cmpI, c1]
        rw [hcv]
        refine ab_cond_of rfl (fun _ => ?_) (fun h => by simp at h)
        refine ab_seq_k fun K16 h16 => ?_
        simp
        refine h16 _ _ _ ?_
        clear h16 K16
        simp
        exact fin_of 1 (by simp [rs106, hd])
      · rw [if_neg c1] at hd
        by_cases c2 : y < x
        · rw [if_pos c2] at hd
          have hcv : cmpI x y = 1 := by simp [cmpI, c1, c2]
          rw [hcv]
          refine ab_cond_of rfl (fun _ => ?_) (fun h => by simp at h)
          refine ab_seq_k fun K16 h16 => ?_
          simp
          refine h16 _ _ _ ?_
          clear h16 K16
          simp
          exact fin_of 1 (by simp [rs106, hd])
        · rw [if_neg c2] at hd
          have hcv : cmpI x y = 0 := by simp [cmpI, c1, c2]
          rw [hcv]
          refine ab_cond_of rfl (fun h => by simp at h) (fun _ => ?_)
          simp
          refine h9 _ _ _ (h8 _ _ _ ?_)
          simp [wrap64 (x := (i : Int) + 1) (by omega) (by omega)]
          exact h5 _ _ _ (again (m - 1) (by omega) ⟨i + 1, by omega, hd, by omega, by simp, rfl⟩)
    · have hbe : b.drop i = [] := List.drop_of_length_le (by omega)
      rw [hbe] at hd
      refine ab_cond_of rfl (fun _ => ?_) (fun h => by simp at h; omega)
      refine ab_seq_k fun K13 h13 => ?_
      simp
      refine h13 _ _ _ ?_
      clear h13 K13
      simp
      exact fin_of 1 (by simp [rs106, hd, lexC])
  · have hil : a.length ≤ i := by simp at hc; omega
    rw [List.drop_of_length_le hil] at hd
    simp
    refine h4 _ _ _ (h2 _ _ _ ?_)
    clear h2 h4 h5 h7
    refine ab_seq_k fun K8 h8 => ?_
    refine ab_seq_k fun K9 h9 => ?_
    simp
    refine h9 _ _ _ ?_
    clear h9 K9
    by_cases hl : a.length < b.length
    · have hne : b.drop i ≠ [] := by rw [Ne, List.drop_eq_nil_iff]; omega
      refine ab_cond_of rfl (fun _ => ?_) (fun h => by simp [hl] at h)
      refine ab_seq_k fun K10 h10 => ?_
      simp
      refine h10 _ _ _ ?_
      clear h10 K10
      simp
      refine fin_of 1 ?_
      cases hb : b.drop i with
      | nil => exact absurd hb hne
      | cons y r => rw [hb] at hd; simp [rs106, hd, lexC]
    · have hbe : b.drop i = [] := List.drop_of_length_le (by omega)
      refine ab_cond_of rfl (fun h => by simp [hl] at h) (fun _ => ?_)
      simp
      refine h8 _ _ _ ?_
      refine ab_seq_k fun K10 h10 => ?_
      simp
      refine h10 _ _ _ ?_
      clear h10 K10
      simp
      exact fin_of 1 (by simp [rs106, hd, hbe, lexC])
theorem or104 {x y : Int} {σ : List O} : FSpec Tryz.prog 104 [.ss [.i .i64 x, .i .i64 y] 2 true] σ (.i .i64 (if x = 0 then y else x)) σ := by
  refine FSpec.frame (σ := σ) ?_ rfl rfl
  refine fn104.spec0 mixed noIt_ok ?_
  rw [ic104]
  refine ab_seq_k fun K1 h1 => ?_
  simp
  refine h1 _ _ _ ?_
  clear h1 K1
  refine ab_seq_k fun K2 h2 => ?_
  simp
  refine h2 _ _ _ ?_
  clear h2 K2
  refine ab_seq_k fun K3 h3 => ?_
  refine ab_seq_k fun K4 h4 => ?_
  simp
  refine h4 _ _ _ ?_
  clear h4 K4
  refine ab_block_k fun K5 h5 => ?_
  refine ab_loop_k (fun m env σ => ∃ i : Nat, i + m = 2 ∧ (i = 0 ∨ i = 1 ∧ x = 0 ∨ i = 2 ∧ x = 0 ∧ y = 0) ∧ env = [(3, .i .i64 0), (6, .ss [.i .i64 x, .i .i64 y] 2 true), (7, .i .i64 2), (8, .i .i64 i)] ∧ σ = []) 2 ⟨0, by omega, .inl rfl, by simp, rfl⟩ ?_
  rintro m env σ ⟨i, hi, hd, rfl, rfl⟩ K6 h6
  rw [ic104_0]
  refine ab_seq_k fun K7 h7 => ?_
  simp
  refine h7 _ _ _ ?_
  clear h7 K7
  refine ab_seq_k fun K8 h8 => ?_
  rcases hd with rfl | ⟨rfl, hx⟩ | ⟨rfl, hx, hy⟩
  · refine ab_cond_of rfl (fun _ => ?_) (fun h => by simp at h)
    simp
    refine h8 _ _ _ ?_
    clear h8 K8
    refine ab_seq_k fun K9 h9 => ?_
    refine ab_block_k fun K10 h10 => ?_
    refine ab_seq_k fun K11 h11 => ?_
    simp
    refine h11 _ _ _ ?_
    clear h11 K11
    refine ab_seq_k fun K12 h12 => ?_
    simp
    refine h12 _ _ _ ?_
    by_cases hx : x = 0
    · refine ab_cond_of rfl (fun h => by simp [hx] at h) (fun _ => ?_)
      simp
      refine h10 _ _ _ (h9 _ _ _ ?_)
      simp [wrap64 (x := 1) (by omega) (by omega)]
      exact h6 _ _ _ (again 1 (by omega) ⟨1, by omega, .inr (.inl ⟨rfl, hx⟩), by simp, rfl⟩)
    · refine ab_cond_of rfl (fun _ => ?_) (fun h => by simp [hx] at h)
      refine ab_seq_k fun K13 h13 => ?_
      simp
      refine h13 _ _ _ ?_
      clear h13 K13
      simp
      exact fin_of 1 (by simp [rs104, hx])
  · refine ab_cond_of rfl (fun _ => ?_) (fun h => by simp at h)
    simp
    refine h8 _ _ _ ?_
    clear h8 K8
    refine ab_seq_k fun K9 h9 => ?_
    refine ab_block_k fun K10 h10 => ?_
    refine ab_seq_k fun K11 h11 => ?_
    simp
    refine h11 _ _ _ ?_
    clear h11 K11
    refine ab_seq_k fun K12 h12 => ?_
    simp
    refine h12 _ _ _ ?_
    by_cases hy : y = 0
    · refine ab_cond_of rfl (fun h => by simp [hy] at h) (fun _ => ?_)
      simp
      refine h10 _ _ _ (h9 _ _ _ ?_)
      simp [wrap64 (x := 2) (by omega) (by omega)]
      exact h6 _ _ _ (again 0 (by omega) ⟨2, by omega, .inr (.inr ⟨rfl, hx, hy⟩), by simp, rfl⟩)
    · refine ab_cond_of rfl (fun _ => ?_) (fun h => by simp [hy] at h)
      refine ab_seq_k fun K13 h13 => ?_
      simp
      refine h13 _ _ _ ?_
      clear h13 K13
      simp
      exact fin_of 1 (by simp [rs104, hx])
  · refine ab_cond_of rfl (fun h => by simp at h) (fun _ => ?_)
    simp
    refine h5 _ _ _ (h3 _ _ _ ?_)
    refine ab_seq_k fun K20 h20 => ?_
    simp
    refine h20 _ _ _ ?_
    clear h20 K20
    simp
    exact fin_of 1 (by simp [rs104, hx, hy])

/-- The fewest keys first. -/
def setC (s t : Nat) : Int := if cmpI (pc s) (pc t) = 0 then lexC (bl s 12) (bl t 12) else cmpI (pc s) (pc t)
def setL (s t : Nat) : Bool := decide (pc s < pc t) || (decide (pc s = pc t) && lexL (bl s 12) (bl t 12))
theorem setC_lt {s t : Nat} : decide (setC s t < 0) = setL s t := by
  unfold setC setL cmpI
  by_cases c1 : pc s < pc t
  · simp [c1]
  · by_cases c2 : pc t < pc s
    · have : ¬ pc s = pc t := by omega
      simp [c1, c2, this]
    · have : pc s = pc t := by omega
      simp [this, ← lexC_lt]
theorem few103 {s t : Nat} {σ : List O} (hs : s < 65536) (ht : t < 65536) : FSpec Tryz.prog 103 [.i .u16 s, .i .u16 t] σ (.i .i64 (setC s t)) σ := by
  refine FSpec.frame (σ := σ) ?_ rfl rfl
  have l1 := bl_len (s := s) (k := 12)
  refine fn103.spec0 mixed noIt_ok ?_
  rw [ic103]
  refine ab_seq_k fun K1 h1 => ?_
  simp
  refine h1 _ _ _ ?_
  clear h1 K1
  refine ab_seq_k fun K2 h2 => ?_
  simp
  refine callK_of (many92 hs) ?_
  simp
  refine callK_of (many92 ht) ?_
  simp
  refine callK_of cmp105 ?_
  simp
  refine callK_of (list68 hs) ?_
  simp
  refine callK_of (list68 ht) ?_
  simp
  refine callK_of (lex106 (by omega)) ?_
  simp
  refine callK_of or104 ?_
  simp
  refine h2 _ _ _ ?_
  simp
  refine fin_of 1 ?_
  simp [rs103, setC]
theorem bl_inj {s t : Nat} (hs : s < 2 ^ 12) (ht : t < 2 ^ 12) (h : bl s 12 = bl t 12) : s = t := by
  rw [← setB_bl hs, ← setB_bl ht, h]
theorem setL_asym {a b : Nat} (h : setL a b = true) : setL b a = false := by
  unfold setL at h ⊢
  simp only [Bool.or_eq_true, decide_eq_true_eq, Bool.and_eq_true] at h
  simp only [Bool.or_eq_false_iff, decide_eq_false_iff_not, Bool.and_eq_false_iff]
  rcases h with h | ⟨h1, h2⟩
  · exact ⟨by omega, .inl (by omega)⟩
  · exact ⟨by omega, .inr (lexL_asym h2)⟩
theorem setL_ntr {a b c : Nat} (h1 : setL a b = false) (h2 : setL b c = false) : setL a c = false := by
  unfold setL at h1 h2 ⊢
  simp only [Bool.or_eq_false_iff, decide_eq_false_iff_not, Bool.and_eq_false_iff] at h1 h2 ⊢
  refine ⟨by omega, ?_⟩
  by_cases h : pc a = pc c
  · exact .inr (lexL_ntr (h1.2.resolve_left (by omega)) (h2.2.resolve_left (by omega)))
  · exact .inl h
theorem setL_tri {a b : Nat} (ha : a < 2 ^ 12) (hb : b < 2 ^ 12) (h1 : setL a b = false) (h2 : setL b a = false) : a = b := by
  unfold setL at h1 h2
  simp only [Bool.or_eq_false_iff, decide_eq_false_iff_not, Bool.and_eq_false_iff] at h1 h2
  have e : pc a = pc b := by omega
  exact bl_inj ha hb (lexL_tri (h1.2.resolve_left (by omega)) (h2.2.resolve_left (by omega)))

/-! ### The two comparisons -/
def u16V (s : Nat) : V := .i .u16 (s : Int)
def listV (s : Nat) : V := sl (bl s 12) ((bl s 12).length == 0)
def unU : V → Nat
  | .i _ x => x.toNat
  | _ => 0
def unL : V → List Int
  | .ss cs _ _ => cs.map fun v => match v with | .i _ x => x | _ => 0
  | _ => []
theorem unL_list {l : List Int} {f : Bool} : unL (sl l f) = l := by
  simp only [unL, ints, List.map_map]
  exact List.map_id'' (fun _ => rfl) l
def DU (v : V) : Prop := ∃ s, s < 2 ^ 12 ∧ v = u16V s
def DL (v : V) : Prop := ∃ s, s < 2 ^ 12 ∧ v = listV s
theorem cmpU : CmpOK (.f (.func 103) [] []) DU (fun x y => setL (unU x) (unU y)) where
  call := ⟨103, [], [], rfl, fun x y σ ⟨s, hs, e1⟩ ⟨t, ht, e2⟩ => by
    subst e1; subst e2
    exact ⟨_, few103 (by omega) (by omega), by rw [setC_lt]; rfl⟩⟩
  asym := fun x y _ _ h => setL_asym h
  ntr := fun x y z _ _ _ h1 h2 => setL_ntr h1 h2
  one := fun x ⟨s, _, e⟩ => by rw [e]; rfl
  pure := fun x ⟨s, _, e⟩ => by rw [e]; rfl
theorem cmpL : CmpOK (.f (.func 106) [] []) DL (fun x y => lexL (unL x) (unL y)) where
  call := ⟨106, [], [], rfl, fun x y σ ⟨s, hs, e1⟩ ⟨t, ht, e2⟩ => by
    subst e1; subst e2
    exact ⟨_, lex106 (by have := bl_len (s := s) (k := 12); omega), by rw [lexC_lt]; simp only [listV, unL_list]⟩⟩
  asym := fun x y _ _ h => lexL_asym h
  ntr := fun x y z _ _ _ h1 h2 => lexL_ntr h1 h2
  one := fun x ⟨s, _, e⟩ => by rw [e]; rfl
  pure := fun x ⟨s, _, e⟩ => by rw [e]; simp [listV]
end Go.Ab
end

section
/- SortFunc: the one sorted order of a slice's elements. -/
set_option linter.unusedVariables false
set_option linter.unusedSimpArgs false
set_option maxHeartbeats 4000000
set_option maxRecDepth 100000
namespace Go.Ab
open Go Go.Proofs

theorem perm_sorted_eq {α : Type} {le : α → α → Prop} : ∀ {l m : List α}, l.Perm m → l.Pairwise le → m.Pairwise le → (∀ x ∈ l, ∀ y ∈ l, le x y → le y x → x = y) → l = m
  | [], m, h, _, _, _ => by have := h.length_eq; cases m with | nil => rfl | cons => simp at this
  | x :: l, [], h, _, _, _ => by have := h.length_eq; simp at this
  | x :: l, y :: m, h, h1, h2, ha => by
    rw [List.pairwise_cons] at h1 h2
    have hxy : x = y := by
      have hx := h.mem_iff.1 (List.mem_cons_self ..)
      have hy := h.mem_iff.2 (List.mem_cons_self ..)
      rw [List.mem_cons] at hx hy
      rcases hx with hx | hx
      · exact hx
      · rcases hy with hy | hy
        · exact hy.symm
        · exact ha x (List.mem_cons_self ..) y (List.mem_cons_of_mem _ hy) (h1.1 y hy) (h2.1 x hx)
    subst hxy
    rw [perm_sorted_eq (List.Perm.cons_inv h) h1.2 h2.2 fun a ha' b hb => ha a (List.mem_cons_of_mem _ ha') b (List.mem_cons_of_mem _ hb)]
theorem rowV_getD {n : Nat} {L : List V} (h : L.length = n) : rowV n (fun k => L.getD k .u) = L := by
  apply List.ext_getElem?
  intro i
  by_cases hi : i < n
  · rw [rowV_get hi, List.getD_eq_getElem?_getD, List.getElem?_eq_getElem (by omega)]; rfl
  · rw [List.getElem?_eq_none (by simpa using hi), List.getElem?_eq_none (by omega)]
theorem Srt.pairwise {lt : V → V → Bool} {n : Nat} {G : Nat → V} (h : Srt lt 0 n G) : (rowV n G).Pairwise (fun x y => lt y x = false) := by
  unfold rowV
  rw [List.pairwise_map]
  refine List.Pairwise.imp_of_mem ?_ List.pairwise_lt_range
  intro i j hi hj hij
  exact h i j (Nat.zero_le _) hij (List.mem_range.1 hj)

section
variable {cv : V} {D : V → Prop} {lt : V → V → Bool}
theorem ins_none {f : FuncId} {fn : Func} {ex : List Nat} (hf : Fn_ Tryz.prog f fn ex gins grins) {v : V} {σ : List O} : FSpecQ Tryz.prog f [v, .i .i64 0, .i .i64 0, cv] σ (fun w σ' => w = .tup [] ∧ σ' = σ) := by
  refine hf.specQ mixed noIt_ok ?_
  rw [gins]
  refine ab_seq_k fun K1 h1 => ?_
  simp [wrap64 (x := 1) (by omega) (by omega)]
  refine h1 _ _ _ ?_
  clear h1 K1
  refine ab_block_k fun K2 h2 => ?_
  refine ab_loop_k (fun m env σ' => env = [(0, v), (1, .i .i64 0), (2, .i .i64 0), (3, cv), (8, .i .i64 1)] ∧ σ' = σ) 0 ⟨by simp, rfl⟩ ?_
  rintro m env σ' ⟨rfl, rfl⟩ K3 h3
  rw [gins_1]
  refine ab_seq_k fun K4 h4 => ?_
  refine ab_seq_k fun K5 h5 => ?_
  simp
  refine h5 _ _ _ ?_
  clear h5 K5
  refine ab_cond_of rfl (fun h => by cases h) (fun _ => ?_)
  simp
  refine h2 _ _ _ (fin_Q ?_)
  simp [grins]
theorem pdq_none {pdqF insF heapF brkF pivF revF pisF peqF parF siftF madjF medF ord2F : FuncId} (hS : SortFns pdqF insF heapF brkF pivF revF pisF peqF parF siftF madjF medF ord2F) {v : V} {l : Int} {σ : List O} : FSpecQ Tryz.prog pdqF [v, .i .i64 0, .i .i64 0, .i .i64 l, cv] σ (fun w σ' => w = .tup [] ∧ σ' = σ) := by
  obtain ⟨_, _, hpdq⟩ := hS.pdq
  obtain ⟨_, _, hins⟩ := hS.ins
  refine hpdq.specQ mixed noIt_ok ?_
  rw [gpdq]
  refine ab_seq_k fun K1 h1 => ?_
  simp
  refine h1 _ _ _ ?_
  clear h1 K1
  refine ab_seq_k fun K2 h2 => ?_
  simp
  refine h2 _ _ _ ?_
  clear h2 K2
  refine ab_block_k fun K3 h3 => ?_
  refine ab_loop_k (fun m env σ' => env = [(0, v), (1, .i .i64 0), (2, .i .i64 0), (3, .i .i64 l), (4, cv), (10, .b true), (11, .b true)] ∧ σ' = σ) 0 ⟨by simp, rfl⟩ ?_
  rintro m env σ' ⟨rfl, rfl⟩ K4 h4
  rw [gpdq_0]
  refine ab_block_k fun K5 h5 => ?_
  refine ab_seq_k fun K6 h6 => ?_
  simp [wrap64 (x := 0) (by omega) (by omega)]
  refine h6 _ _ _ ?_
  clear h6 K6
  refine ab_seq_k fun K7 h7 => ?_
  refine ab_seq_k fun K8 h8 => ?_
  simp
  refine h8 _ _ _ ?_
  refine ab_cond_of rfl (fun _ => ?_) (fun h => by cases h)
  refine ab_seq_k fun K9 h9 => ?_
  simp
  refine callR_of (ins_none hins) ?_
  rintro w σ2 ⟨rfl, rfl⟩
  simp
  refine h9 _ _ _ ?_
  simp
  refine fin_Q ?_
  simp [grpdq]
theorem srt_ok {srtF pdqF insF heapF brkF pivF revF pisF peqF parF siftF madjF medF ord2F : FuncId} (hS : SortFns pdqF insF heapF brkF pivF revF pisF peqF parF siftF madjF medF ord2F) {fn : Func} {ex : List Nat} (hsrt : Fn_ Tryz.prog srtF fn ex (gsrt pdqF) grsrt) (hcmp : CmpOK cv D lt) {σ : List O} {id ver n : Nat} {F : Nat → V} (hn : n ≤ 60000) (hD : ∀ k, k < n → D (F k)) (hσ : σ[id]? = some (.row ver (rowV n F))) :
    FSpecQ Tryz.prog srtF [slV id ver n, cv] σ (SwQ σ id ver n 0 n F (Srt lt 0 n) (.tup [])) := by
  obtain ⟨hσ1, hσ'⟩ := List.getElem?_eq_some_iff.1 hσ
  refine hsrt.specQ mixed noIt_ok ?_
  rw [gsrt]
  obtain ⟨L, hL, hL1, -, -⟩ := len119 (x := n) (σ := σ) (by omega)
  refine ab_seq_k fun K1 h1 => ?_
  simp [hσ, hσ']
  refine h1 _ _ _ ?_
  clear h1 K1
  simp [wrapu64 (x := (n : Int)) (by omega) (by omega)]
  refine callR_of hL.toQ ?_
  rintro v σ' ⟨rfl, rfl⟩
  simp
  refine callR_of (pdq_ok hS hcmp hn (n + 1) (a := 0) (b := n) (lim := L) (by omega) hD (by omega) (by omega) (by omega) hσ (.inl rfl)) ?_
  rintro v σ' h
  simp
  refine fin_Q ?_
  obtain ⟨rfl, h2⟩ := h
  simp [grsrt]
  exact ⟨rfl, h2⟩
theorem srt_point {srtF pdqF insF heapF brkF pivF revF pisF peqF parF siftF madjF medF ord2F : FuncId} (hS : SortFns pdqF insF heapF brkF pivF revF pisF peqF parF siftF madjF medF ord2F) {fn : Func} {ex : List Nat} (hsrt : Fn_ Tryz.prog srtF fn ex (gsrt pdqF) grsrt) (hcmp : CmpOK cv D lt) (anti : ∀ x y, D x → D y → lt x y = false → lt y x = false → x = y) {σ : List O} {id ver n : Nat} {L S : List V} (hn : n ≤ 60000) (hln : L.length = n) (hD : ∀ x ∈ L, D x) (hp : S.Perm L) (hs : S.Pairwise (fun x y => lt y x = false)) (hσ : σ[id]? = some (.row ver L)) :
    FSpec Tryz.prog srtF [slV id ver n, cv] σ (.tup []) (σ.set id (.row ver S)) := by
  have e := rowV_getD hln
  rw [← e] at hσ
  have hD' : ∀ k, k < n → D (L.getD k .u) := fun k hk => by
    rw [List.getD_eq_getElem?_getD, List.getElem?_eq_getElem (by omega)]
    exact hD _ (List.getElem_mem _)
  refine FSpecQ.point ((srt_ok hS hsrt hcmp hn hD' hσ).imp ?_)
  rintro v σ' ⟨rfl, G, h1, h2, h3⟩
  refine ⟨rfl, ?_⟩
  rw [h3.is_]
  have hpg : (rowV n G).Perm L := by
    have := h1.perm (Nat.le_refl n)
    rwa [e] at this
  congr 2
  refine perm_sorted_eq (hpg.trans hp.symm) h2.pairwise hs fun x hx y hy a1 a2 => ?_
  exact anti x y (hD x (hpg.mem_iff.1 hx)) (hD y (hpg.mem_iff.1 hy)) a2 a1
theorem srt_nil {srtF pdqF insF heapF brkF pivF revF pisF peqF parF siftF madjF medF ord2F : FuncId} (hS : SortFns pdqF insF heapF brkF pivF revF pisF peqF parF siftF madjF medF ord2F) {fn : Func} {ex : List Nat} (hsrt : Fn_ Tryz.prog srtF fn ex (gsrt pdqF) grsrt) {σ : List O} : FSpec Tryz.prog srtF [.ss [] 0 true, cv] σ (.tup []) σ := by
  refine FSpecQ.point ?_
  refine hsrt.specQ mixed noIt_ok ?_
  rw [gsrt]
  obtain ⟨L, hL, hL1, -, -⟩ := len119 (x := 0) (σ := σ) (by omega)
  refine ab_seq_k fun K1 h1 => ?_
  simp
  refine h1 _ _ _ ?_
  clear h1 K1
  have w0 : IntKind.u64.wrap 0 = 0 := wrapu64 (by omega) (by omega)
  simp [w0]
  refine callR_of hL.toQ ?_
  rintro v σ' ⟨rfl, rfl⟩
  simp
  refine callR_of (pdq_none hS) ?_
  rintro v σ' ⟨rfl, rfl⟩
  simp
  refine fin_Q ?_
  simp [grsrt]
/-- A slice that has grown, sorted. -/
theorem srt_gr {srtF pdqF insF heapF brkF pivF revF pisF peqF parF siftF madjF medF ord2F : FuncId} (hS : SortFns pdqF insF heapF brkF pivF revF pisF peqF parF siftF madjF medF ord2F) {fn : Func} {ex : List Nat} (hsrt : Fn_ Tryz.prog srtF fn ex (gsrt pdqF) grsrt) (hcmp : CmpOK cv D lt) (anti : ∀ x y, D x → D y → lt x y = false → lt y x = false → x = y) {σ : List O} {v : V} {k n : Nat} {L S : List V} (hv : Gr k 1 σ v n L) (hn : n ≤ 60000) (hD : ∀ x ∈ L, D x) (hp : S.Perm L) (hs : S.Pairwise (fun x y => lt y x = false)) :
    ∃ σ', FSpec Tryz.prog srtF [v, cv] σ (.tup []) σ' ∧ Gr k 1 σ' v n S ∧ σ'.length = σ.length ∧ ∀ j, idOf v ≠ some j → σ'[j]? = σ[j]? := by
  have hl := hv.1
  rcases hv.cases with ⟨rfl, rfl, rfl⟩ | ⟨id, ver, hn0, hid, rfl, hσ, hlt⟩
  · have : S = [] := List.Perm.eq_nil hp
    subst this
    exact ⟨σ, srt_nil hS hsrt, Gr.nil, rfl, fun _ _ => rfl⟩
  · have hln : L.length = n := by simpa using hl
    refine ⟨_, srt_point hS hsrt hcmp anti hn hln hD hp hs hσ, ⟨by rw [hp.length_eq]; exact hl, .inr ⟨hn0, id, ver, hid, rfl, List.getElem?_set_self hlt⟩⟩, by simp, fun j hj => List.getElem?_set_ne (fun e => hj (by rw [← e]; rfl))⟩
end
theorem antiU : ∀ x y, DU x → DU y → setL (unU x) (unU y) = false → setL (unU y) (unU x) = false → x = y := by
  rintro x y ⟨s, hs, rfl⟩ ⟨t, ht, rfl⟩ h1 h2
  have := setL_tri (a := s) (b := t) hs ht (by simpa [unU, u16V] using h1) (by simpa [unU, u16V] using h2)
  rw [this]
theorem antiL : ∀ x y, DL x → DL y → lexL (unL x) (unL y) = false → lexL (unL y) (unL x) = false → x = y := by
  rintro x y ⟨s, hs, rfl⟩ ⟨t, ht, rfl⟩ h1 h2
  unfold listV at h1 h2 ⊢
  rw [unL_list, unL_list] at h1 h2
  rw [lexL_tri h1 h2]
/-- Sets, the fewest first; lists, in their order. -/
theorem srtU {σ : List O} {v : V} {k n : Nat} {L S : List V} (hv : Gr k 1 σ v n L) (hn : n ≤ 60000) (hD : ∀ x ∈ L, DU x) (hp : S.Perm L) (hs : S.Pairwise (fun x y => setL (unU y) (unU x) = false)) :
    ∃ σ', FSpec Tryz.prog 102 [v, .f (.func 103) [] []] σ (.tup []) σ' ∧ Gr k 1 σ' v n S ∧ σ'.length = σ.length ∧ ∀ j, idOf v ≠ some j → σ'[j]? = σ[j]? := srt_gr sortA gf102 cmpU antiU hv hn hD hp hs
theorem srtL {σ : List O} {v : V} {k n : Nat} {L S : List V} (hv : Gr k 1 σ v n L) (hn : n ≤ 60000) (hD : ∀ x ∈ L, DL x) (hp : S.Perm L) (hs : S.Pairwise (fun x y => lexL (unL y) (unL x) = false)) :
    ∃ σ', FSpec Tryz.prog 108 [v, .f (.func 106) [] []] σ (.tup []) σ' ∧ Gr k 1 σ' v n S ∧ σ'.length = σ.length ∧ ∀ j, idOf v ≠ some j → σ'[j]? = σ[j]? := srt_gr sortB_ gf108 cmpL antiL hv hn hD hp hs
end Go.Ab
end
