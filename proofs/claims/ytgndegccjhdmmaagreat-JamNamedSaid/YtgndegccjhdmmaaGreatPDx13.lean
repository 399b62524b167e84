import Derived.Test.YtgndegccjhdmmaaGreatPDx12
/- Part 13 of what the theorem in TC rests on: an abstract layer over the calculus, contracts of the functions of the program, and plain facts. -/
set_option linter.unusedVariables false
set_option linter.unusedSimpArgs false
set_option linter.constructorNameAsVariable false
set_option maxHeartbeats 4000000
set_option maxRecDepth 100000
section
section
namespace Go.Ab
open Go Go.Proofs
def cmpI (x y : Int) : Int := if x < y then -1 else if y < x then 1 else 0
def lexC : List Int → List Int → Int
 | [], [] => 0
 | [], _ :: _ => -1
 | _ :: _, [] => 1
 | a :: at_, b :: bt_ => if a < b then -1 else if b < a then 1 else lexC at_ bt_
def lexL : List Int → List Int → Bool
 | [], [] => false
 | [], _ :: _ => true
 | _ :: _, [] => false
 | a :: at_, b :: bt_ => if a < b then true else if b < a then false else lexL at_ bt_
theorem lexC_lt : ∀ {a b : List Int}, decide (lexC a b < 0) = lexL a b
 | [], [] => rfl
 | [], _ :: _ => rfl
 | _ :: _, [] => rfl
 | a :: at_, b :: bt_ => by
  simp only [lexC, lexL]
  split
  ·rfl
  ·split
   ·rfl
   ·exact lexC_lt
theorem lexL_asym : ∀ {a b : List Int}, lexL a b = true → lexL b a = false
 | [], [], h => rfl
 | [], _ :: _, h => rfl
 | _ :: _, [], h => by cases h
 | a :: at_, b :: bt_, h => by
  simp only [lexL] at h ⊢
  split at h
  ·rw [if_neg (by omega), if_pos (by omega)]
  ·split at h
   ·cases h
   ·rw [if_neg (by omega), if_neg (by omega)]; exact lexL_asym h
theorem lexL_tri : ∀ {a b : List Int}, lexL a b = false → lexL b a = false → a = b
 | [], [], _, _ => rfl
 | [], _ :: _, h, _ => by cases h
 | _ :: _, [], _, h => by cases h
 | a :: at_, b :: bt_, h1, h2 => by
  simp only [lexL] at h1 h2
  by_cases c1 : a < b
  ·rw [if_pos c1] at h1; cases h1
  ·by_cases c2 : b < a
   ·rw [if_pos c2] at h2; cases h2
   ·rw [if_neg c1, if_neg c2] at h1
    rw [if_neg c2, if_neg c1] at h2
    rw [lexL_tri h1 h2, show a = b by omega]
theorem lexL_trans : ∀ {a b c : List Int}, lexL a b = true → lexL b c = true → lexL a c = true
 | [], [], _, h, _ => by cases h
 | [], _ :: _, [], _, h => by cases h
 | [], _ :: _, _ :: _, _, _ => rfl
 | _ :: _, [], _, h, _ => by cases h
 | _ :: _, _ :: _, [], _, h => by cases h
 | a :: at_, b :: bt_, c :: ct_, h1, h2 => by
  simp only [lexL] at h1 h2 ⊢
  by_cases c1 : a < b
  ·by_cases c2 : b < c
   ·rw [if_pos (by omega)]
   ·rw [if_neg c2] at h2
    by_cases c3 : c < b
    ·rw [if_pos c3] at h2; cases h2
    ·rw [if_pos (by omega)]
  ·rw [if_neg c1] at h1
   by_cases c2 : b < a
   ·rw [if_pos c2] at h1; cases h1
   ·rw [if_neg c2] at h1
    by_cases c3 : b < c
    ·rw [if_pos (by omega)]
    ·rw [if_neg c3] at h2
     by_cases c4 : c < b
     ·rw [if_pos c4] at h2; cases h2
     ·rw [if_neg c4] at h2
      rw [if_neg (by omega), if_neg (by omega)]
      exact lexL_trans h1 h2
theorem ntr_of {α : Type} {r : α → α → Bool} (has : ∀ a b, r a b = true → r b a = false) (htri : ∀ a b, r a b = false → r b a = false → a = b) (htr : ∀ a b c, r a b = true → r b c = true → r a c = true) {a b c : α} (h1 : r a b = false) (h2 : r b c = false) : r a c = false := by
 cases h3 : r b a with
 | false => rw [htri a b h1 h3]; exact h2
 | true =>
  cases h4 : r c b with
  | false => rw [← htri b c h2 h4]; exact h1
  | true => exact has _ _ (htr _ _ _ h4 h3)
theorem lexL_ntr {a b c : List Int} (h1 : lexL a b = false) (h2 : lexL b c = false) : lexL a c = false := ntr_of (fun _ _ => lexL_asym) (fun _ _ => lexL_tri) (fun _ _ _ => lexL_trans) h1 h2
theorem nan120 {x : Int} {σ : List O} : FSpec Tryz.prog 120 [.i .i64 x] σ (.b false) σ := by
 refine FSpec.frame (σ := σ) ?_ rfl rfl
 refine fn120.spec0 mixed noIt_ok ?_
 rw [ic120]
 refine ab_seq_k fun K1 h1 => ?_
 simp
 refine h1 _ _ _ ?_
 clear h1 K1
 refine ab_seq_k fun K2 h2 => ?_
 simp
 refine h2 _ _ _ ?_
 clear h2 K2
 simp
 exact fin_of 1 (by simp [rs120])
theorem cmp105 {x y : Int} {σ : List O} : FSpec Tryz.prog 105 [.i .i64 x, .i .i64 y] σ (.i .i64 (cmpI x y)) σ := by
 refine FSpec.frame (σ := σ) ?_ rfl rfl
 refine fn105.spec0 mixed noIt_ok ?_
 rw [ic105]
 refine ab_seq_k fun K1 h1 => ?_
 simp
 refine h1 _ _ _ ?_
 clear h1 K1
 refine ab_seq_k fun K2 h2 => ?_
 simp
 refine callK_of (nan120) ?_
 simp
 refine h2 _ _ _ ?_
 clear h2 K2
 refine ab_seq_k fun K3 h3 => ?_
 simp
 refine callK_of (nan120) ?_
 simp
 refine h3 _ _ _ ?_
 clear h3 K3
 refine ab_seq_k fun K4 h4 => ?_
 refine ab_seq_k fun K5 h5 => ?_
 simp
 refine h5 _ _ _ ?_
 clear h5 K5
 refine ab_cond_of rfl (fun h => by cases h) (fun _ => ?_)
 simp
 refine h4 _ _ _ ?_
 clear h4 K4
 refine ab_seq_k fun K4 h4 => ?_
 refine ab_seq_k fun K5 h5 => ?_
 simp
 refine h5 _ _ _ ?_
 clear h5 K5
 refine ab_cond_of rfl (fun h => by cases h) (fun _ => ?_)
 simp
 refine h4 _ _ _ ?_
 clear h4 K4
 refine ab_seq_k fun K4 h4 => ?_
 refine ab_seq_k fun K5 h5 => ?_
 simp
 refine h5 _ _ _ ?_
 clear h5 K5
 by_cases c1 : x < y
 ·refine ab_cond_of rfl (fun _ => ?_) (fun h => by simp [c1] at h)
  refine ab_seq_k fun K6 h6 => ?_
  simp
  refine h6 _ _ _ ?_
  clear h6 K6
  simp
  exact fin_of 1 (by simp [rs105, cmpI, c1])
 ·refine ab_cond_of rfl (fun h => by simp [c1] at h) (fun _ => ?_)
  simp
  refine h4 _ _ _ ?_
  clear h4 K4
  refine ab_seq_k fun K4 h4 => ?_
  refine ab_seq_k fun K5 h5 => ?_
  simp
  refine h5 _ _ _ ?_
  clear h5 K5
  by_cases c2 : y < x
  ·refine ab_cond_of rfl (fun _ => ?_) (fun h => by simp [c2] at h)
   refine ab_seq_k fun K6 h6 => ?_
   simp
   refine h6 _ _ _ ?_
   clear h6 K6
   simp
   exact fin_of 1 (by simp [rs105, cmpI, c1, c2])
  ·refine ab_cond_of rfl (fun h => by simp [c2] at h) (fun _ => ?_)
   simp
   refine h4 _ _ _ ?_
   refine ab_seq_k fun K6 h6 => ?_
   simp
   refine h6 _ _ _ ?_
   clear h6 K6
   simp
   exact fin_of 1 (by simp [rs105, cmpI, c1, c2])
theorem lex106 {a b : List Int} {fa fb : Bool} {σ : List O} (ha : (a.length : Int) < 1000000000) : FSpec Tryz.prog 106 [sl a fa, sl b fb] σ (.i .i64 (lexC a b)) σ := by
 refine FSpec.frame (σ := σ) ?_ (by simp) rfl
 refine fn106.spec0 mixed noIt_ok ?_
 rw [ic106]
 refine ab_seq_k fun K1 h1 => ?_
 simp
 refine h1 _ _ _ ?_
 clear h1 K1
 refine ab_seq_k fun K2 h2 => ?_
 refine ab_seq_k fun K3 h3 => ?_
 simp
 refine h3 _ _ _ ?_
 clear h3 K3
 refine ab_block_k fun K4 h4 => ?_
 refine ab_loop_k (fun m env σ => ∃ i : Nat, i + m = a.length ∧ lexC a b = lexC (a.drop i) (b.drop i) ∧ i ≤ b.length ∧ env = [(0, sl a fa), (1, sl b fb), (9, sl a fa), (10, .i .i64 a.length), (11, .i .i64 i)] ∧ σ = []) a.length ⟨0, by omega, by simp, by omega, by simp, rfl⟩ ?_
 rintro m env σ ⟨i, hi, hd, hib, rfl, rfl⟩ K5 h5
 rw [ic106_0]
 refine ab_seq_k fun K6 h6 => ?_
 simp
 refine h6 _ _ _ ?_
 clear h6 K6
 refine ab_seq_k fun K7 h7 => ?_
 refine ab_cond_of rfl (fun hc => ?_) (fun hc => ?_)
 ·have hil : i < a.length := by simpa using hc
  obtain ⟨a1, a2, -⟩ := getD_get hil
  rw [List.drop_eq_getElem_cons hil, a2] at hd
  generalize a.getD i 0 = x at *
  simp
  refine h7 _ _ _ ?_
  clear h7 K7
  refine ab_seq_k fun K8 h8 => ?_
  refine ab_block_k fun K9 h9 => ?_
  refine ab_seq_k fun K10 h10 => ?_
  simp [hil, a1, a2]
  refine h10 _ _ _ ?_
  clear h10 K10
  refine ab_seq_k fun K11 h11 => ?_
  refine ab_seq_k fun K12 h12 => ?_
  simp
  refine h12 _ _ _ ?_
  clear h12 K12
  by_cases hbl : i < b.length
  ·obtain ⟨b1, b2, -⟩ := getD_get hbl
   rw [List.drop_eq_getElem_cons hbl, b2] at hd
   generalize b.getD i 0 = y at *
   refine ab_cond_of rfl (fun h => by simp at h; omega) (fun _ => ?_)
   simp
   refine h11 _ _ _ ?_
   clear h11 K11
   refine ab_seq_k fun K13 h13 => ?_
   simp [hbl, b1, b2]
   refine h13 _ _ _ ?_
   clear h13 K13
   refine ab_seq_k fun K14 h14 => ?_
   simp
   refine callK_of (cmp105) ?_
   simp
   refine h14 _ _ _ ?_
   clear h14 K14
   refine ab_seq_k fun K15 h15 => ?_
   simp
   refine h15 _ _ _ ?_
   clear h15 K15
   simp only [lexC] at hd
   by_cases c1 : x < y
   ·rw [if_pos c1] at hd
    have hcv : cmpI x y = -1 := by simp [cmpI, c1]
    rw [hcv]
    refine ab_cond_of rfl (fun _ => ?_) (fun h => by simp at h)
    refine ab_seq_k fun K16 h16 => ?_
    simp
    refine h16 _ _ _ ?_
    clear h16 K16
    simp
    exact fin_of 1 (by simp [rs106, hd])
   ·rw [if_neg c1] at hd
    by_cases c2 : y < x
    ·rw [if_pos c2] at hd
     have hcv : cmpI x y = 1 := by simp [cmpI, c1, c2]
     rw [hcv]
     refine ab_cond_of rfl (fun _ => ?_) (fun h => by simp at h)
     refine ab_seq_k fun K16 h16 => ?_
     simp
     refine h16 _ _ _ ?_
     clear h16 K16
     simp
     exact fin_of 1 (by simp [rs106, hd])
    ·rw [if_neg c2] at hd
     have hcv : cmpI x y = 0 := by simp [cmpI, c1, c2]
     rw [hcv]
     refine ab_cond_of rfl (fun h => by simp at h) (fun _ => ?_)
     simp
     refine h9 _ _ _ (h8 _ _ _ ?_)
     simp [wrap64 (x := (i : Int) + 1) (by omega) (by omega)]
     exact h5 _ _ _ (again (m - 1) (by omega) ⟨i + 1, by omega, hd, by omega, by simp, rfl⟩)
  ·have hbe : b.drop i = [] := List.drop_of_length_le (by omega)
   rw [hbe] at hd
   refine ab_cond_of rfl (fun _ => ?_) (fun h => by simp at h; omega)
   refine ab_seq_k fun K13 h13 => ?_
   simp
   refine h13 _ _ _ ?_
   clear h13 K13
   simp
   exact fin_of 1 (by simp [rs106, hd, lexC])
 ·have hil : a.length ≤ i := by simp at hc; omega
  rw [List.drop_of_length_le hil] at hd
  simp
  refine h4 _ _ _ (h2 _ _ _ ?_)
  clear h2 h4 h5 h7
  refine ab_seq_k fun K8 h8 => ?_
  refine ab_seq_k fun K9 h9 => ?_
  simp
  refine h9 _ _ _ ?_
  clear h9 K9
  by_cases hl : a.length < b.length
  ·have hne : b.drop i ≠ [] := by rw [Ne, List.drop_eq_nil_iff]; omega
   refine ab_cond_of rfl (fun _ => ?_) (fun h => by simp [hl] at h)
   refine ab_seq_k fun K10 h10 => ?_
   simp
   refine h10 _ _ _ ?_
   clear h10 K10
   simp
   refine fin_of 1 ?_
   cases hb : b.drop i with
   | nil => exact absurd hb hne
   | cons y r => rw [hb] at hd; simp [rs106, hd, lexC]
  ·have hbe : b.drop i = [] := List.drop_of_length_le (by omega)
   refine ab_cond_of rfl (fun h => by simp [hl] at h) (fun _ => ?_)
   simp
   refine h8 _ _ _ ?_
   refine ab_seq_k fun K10 h10 => ?_
   simp
   refine h10 _ _ _ ?_
   clear h10 K10
   simp
   exact fin_of 1 (by simp [rs106, hd, hbe, lexC])
theorem or104 {x y : Int} {σ : List O} : FSpec Tryz.prog 104 [.ss [.i .i64 x, .i .i64 y] 2 true] σ (.i .i64 (if x = 0 then y else x)) σ := by
 refine FSpec.frame (σ := σ) ?_ rfl rfl
 refine fn104.spec0 mixed noIt_ok ?_
 rw [ic104]
 refine ab_seq_k fun K1 h1 => ?_
 simp
 refine h1 _ _ _ ?_
 clear h1 K1
 refine ab_seq_k fun K2 h2 => ?_
 simp
 refine h2 _ _ _ ?_
 clear h2 K2
 refine ab_seq_k fun K3 h3 => ?_
 refine ab_seq_k fun K4 h4 => ?_
 simp
 refine h4 _ _ _ ?_
 clear h4 K4
 refine ab_block_k fun K5 h5 => ?_
 refine ab_loop_k (fun m env σ => ∃ i : Nat, i + m = 2 ∧ (i = 0 ∨ i = 1 ∧ x = 0 ∨ i = 2 ∧ x = 0 ∧ y = 0) ∧ env = [(3, .i .i64 0), (6, .ss [.i .i64 x, .i .i64 y] 2 true), (7, .i .i64 2), (8, .i .i64 i)] ∧ σ = []) 2 ⟨0, by omega, .inl rfl, by simp, rfl⟩ ?_
 rintro m env σ ⟨i, hi, hd, rfl, rfl⟩ K6 h6
 rw [ic104_0]
 refine ab_seq_k fun K7 h7 => ?_
 simp
 refine h7 _ _ _ ?_
 clear h7 K7
 refine ab_seq_k fun K8 h8 => ?_
 rcases hd with rfl | ⟨rfl, hx⟩ | ⟨rfl, hx, hy⟩
 ·refine ab_cond_of rfl (fun _ => ?_) (fun h => by simp at h)
  simp
  refine h8 _ _ _ ?_
  clear h8 K8
  refine ab_seq_k fun K9 h9 => ?_
  refine ab_block_k fun K10 h10 => ?_
  refine ab_seq_k fun K11 h11 => ?_
  simp
  refine h11 _ _ _ ?_
  clear h11 K11
  refine ab_seq_k fun K12 h12 => ?_
  simp
  refine h12 _ _ _ ?_
  by_cases hx : x = 0
  ·refine ab_cond_of rfl (fun h => by simp [hx] at h) (fun _ => ?_)
   simp
   refine h10 _ _ _ (h9 _ _ _ ?_)
   simp [wrap64 (x := 1) (by omega) (by omega)]
   exact h6 _ _ _ (again 1 (by omega) ⟨1, by omega, .inr (.inl ⟨rfl, hx⟩), by simp, rfl⟩)
  ·refine ab_cond_of rfl (fun _ => ?_) (fun h => by simp [hx] at h)
   refine ab_seq_k fun K13 h13 => ?_
   simp
   refine h13 _ _ _ ?_
   clear h13 K13
   simp
   exact fin_of 1 (by simp [rs104, hx])
 ·refine ab_cond_of rfl (fun _ => ?_) (fun h => by simp at h)
  simp
  refine h8 _ _ _ ?_
  clear h8 K8
  refine ab_seq_k fun K9 h9 => ?_
  refine ab_block_k fun K10 h10 => ?_
  refine ab_seq_k fun K11 h11 => ?_
  simp
  refine h11 _ _ _ ?_
  clear h11 K11
  refine ab_seq_k fun K12 h12 => ?_
  simp
  refine h12 _ _ _ ?_
  by_cases hy : y = 0
  ·refine ab_cond_of rfl (fun h => by simp [hy] at h) (fun _ => ?_)
   simp
   refine h10 _ _ _ (h9 _ _ _ ?_)
   simp [wrap64 (x := 2) (by omega) (by omega)]
   exact h6 _ _ _ (again 0 (by omega) ⟨2, by omega, .inr (.inr ⟨rfl, hx, hy⟩), by simp, rfl⟩)
  ·refine ab_cond_of rfl (fun _ => ?_) (fun h => by simp [hy] at h)
   refine ab_seq_k fun K13 h13 => ?_
   simp
   refine h13 _ _ _ ?_
   clear h13 K13
   simp
   exact fin_of 1 (by simp [rs104, hx])
 ·refine ab_cond_of rfl (fun h => by simp at h) (fun _ => ?_)
  simp
  refine h5 _ _ _ (h3 _ _ _ ?_)
  refine ab_seq_k fun K20 h20 => ?_
  simp
  refine h20 _ _ _ ?_
  clear h20 K20
  simp
  exact fin_of 1 (by simp [rs104, hx, hy])
def setC (s t : Nat) : Int := if cmpI (pc s) (pc t) = 0 then lexC (bl s 12) (bl t 12) else cmpI (pc s) (pc t)
def setL (s t : Nat) : Bool := decide (pc s < pc t) || (decide (pc s = pc t) && lexL (bl s 12) (bl t 12))
theorem setC_lt {s t : Nat} : decide (setC s t < 0) = setL s t := by
 unfold setC setL cmpI
 by_cases c1 : pc s < pc t
 ·simp [c1]
 ·by_cases c2 : pc t < pc s
  ·have : ¬ pc s = pc t := by omega
   simp [c1, c2, this]
  ·have : pc s = pc t := by omega
   simp [this, ← lexC_lt]
theorem few103 {s t : Nat} {σ : List O} (hs : s < 65536) (ht : t < 65536) : FSpec Tryz.prog 103 [.i .u16 s, .i .u16 t] σ (.i .i64 (setC s t)) σ := by
 refine FSpec.frame (σ := σ) ?_ rfl rfl
 have l1 := bl_len (s := s) (k := 12)
 refine fn103.spec0 mixed noIt_ok ?_
 rw [ic103]
 refine ab_seq_k fun K1 h1 => ?_
 simp
 refine h1 _ _ _ ?_
 clear h1 K1
 refine ab_seq_k fun K2 h2 => ?_
 simp
 refine callK_of (many92 hs) ?_
 simp
 refine callK_of (many92 ht) ?_
 simp
 refine callK_of cmp105 ?_
 simp
 refine callK_of (list68 hs) ?_
 simp
 refine callK_of (list68 ht) ?_
 simp
 refine callK_of (lex106 (by omega)) ?_
 simp
 refine callK_of or104 ?_
 simp
 refine h2 _ _ _ ?_
 simp
 refine fin_of 1 ?_
 simp [rs103, setC]
theorem bl_inj {s t : Nat} (hs : s < 2 ^ 12) (ht : t < 2 ^ 12) (h : bl s 12 = bl t 12) : s = t := by
 rw [← setB_bl hs, ← setB_bl ht, h]
theorem setL_asym {a b : Nat} (h : setL a b = true) : setL b a = false := by
 unfold setL at h ⊢
 simp only [Bool.or_eq_true, decide_eq_true_eq, Bool.and_eq_true] at h
 simp only [Bool.or_eq_false_iff, decide_eq_false_iff_not, Bool.and_eq_false_iff]
 rcases h with h | ⟨h1, h2⟩
 ·exact ⟨by omega, .inl (by omega)⟩
 ·exact ⟨by omega, .inr (lexL_asym h2)⟩
theorem setL_ntr {a b c : Nat} (h1 : setL a b = false) (h2 : setL b c = false) : setL a c = false := by
 unfold setL at h1 h2 ⊢
 simp only [Bool.or_eq_false_iff, decide_eq_false_iff_not, Bool.and_eq_false_iff] at h1 h2 ⊢
 refine ⟨by omega, ?_⟩
 by_cases h : pc a = pc c
 ·exact .inr (lexL_ntr (h1.2.resolve_left (by omega)) (h2.2.resolve_left (by omega)))
 ·exact .inl h
theorem setL_tri {a b : Nat} (ha : a < 2 ^ 12) (hb : b < 2 ^ 12) (h1 : setL a b = false) (h2 : setL b a = false) : a = b := by
 unfold setL at h1 h2
 simp only [Bool.or_eq_false_iff, decide_eq_false_iff_not, Bool.and_eq_false_iff] at h1 h2
 have e : pc a = pc b := by omega
 exact bl_inj ha hb (lexL_tri (h1.2.resolve_left (by omega)) (h2.2.resolve_left (by omega)))
def u16V (s : Nat) : V := .i .u16 (s : Int)
def listV (s : Nat) : V := sl (bl s 12) ((bl s 12).length == 0)
def unU : V → Nat
 | .i _ x => x.toNat
 | _ => 0
def unL : V → List Int
 | .ss cs _ _ => cs.map fun v => match v with | .i _ x => x | _ => 0
 | _ => []
theorem unL_list {l : List Int} {f : Bool} : unL (sl l f) = l := by
 simp only [unL, ints, List.map_map]
 exact List.map_id'' (fun _ => rfl) l
def DU (v : V) : Prop := ∃ s, s < 2 ^ 12 ∧ v = u16V s
def DL (v : V) : Prop := ∃ s, s < 2 ^ 12 ∧ v = listV s
theorem cmpU : CmpOK (.f (.func 103) [] []) DU (fun x y => setL (unU x) (unU y)) where
 call := ⟨103, [], [], rfl, fun x y σ ⟨s, hs, e1⟩ ⟨t, ht, e2⟩ => by
  subst e1; subst e2
  exact ⟨_, few103 (by omega) (by omega), by rw [setC_lt]; rfl⟩⟩
 asym := fun x y _ _ h => setL_asym h
 ntr := fun x y z _ _ _ h1 h2 => setL_ntr h1 h2
 one := fun x ⟨s, _, e⟩ => by rw [e]; rfl
 pure := fun x ⟨s, _, e⟩ => by rw [e]; rfl
theorem cmpL : CmpOK (.f (.func 106) [] []) DL (fun x y => lexL (unL x) (unL y)) where
 call := ⟨106, [], [], rfl, fun x y σ ⟨s, hs, e1⟩ ⟨t, ht, e2⟩ => by
  subst e1; subst e2
  exact ⟨_, lex106 (by have := bl_len (s := s) (k := 12); omega), by rw [lexC_lt]; simp only [listV, unL_list]⟩⟩
 asym := fun x y _ _ h => lexL_asym h
 ntr := fun x y z _ _ _ h1 h2 => lexL_ntr h1 h2
 one := fun x ⟨s, _, e⟩ => by rw [e]; rfl
 pure := fun x ⟨s, _, e⟩ => by rw [e]; simp [listV]
end Go.Ab
end
section
namespace Go.Ab
open Go Go.Proofs
theorem perm_sorted_eq {α : Type} {le : α → α → Prop} : ∀ {l m : List α}, l.Perm m → l.Pairwise le → m.Pairwise le → (∀ x ∈ l, ∀ y ∈ l, le x y → le y x → x = y) → l = m
 | [], m, h, _, _, _ => by have := h.length_eq; cases m with | nil => rfl | cons => simp at this
 | x :: l, [], h, _, _, _ => by have := h.length_eq; simp at this
 | x :: l, y :: m, h, h1, h2, ha => by
  rw [List.pairwise_cons] at h1 h2
  have hxy : x = y := by
   have hx := h.mem_iff.1 (List.mem_cons_self ..)
   have hy := h.mem_iff.2 (List.mem_cons_self ..)
   rw [List.mem_cons] at hx hy
   rcases hx with hx | hx
   ·exact hx
   ·rcases hy with hy | hy
    ·exact hy.symm
    ·exact ha x (List.mem_cons_self ..) y (List.mem_cons_of_mem _ hy) (h1.1 y hy) (h2.1 x hx)
  subst hxy
  rw [perm_sorted_eq (List.Perm.cons_inv h) h1.2 h2.2 fun a ha' b hb => ha a (List.mem_cons_of_mem _ ha') b (List.mem_cons_of_mem _ hb)]
theorem rowV_getD {n : Nat} {L : List V} (h : L.length = n) : rowV n (fun k => L.getD k .u) = L := by
 apply List.ext_getElem?
 intro i
 by_cases hi : i < n
 ·rw [rowV_get hi, List.getD_eq_getElem?_getD, List.getElem?_eq_getElem (by omega)]; rfl
 ·rw [List.getElem?_eq_none (by simpa using hi), List.getElem?_eq_none (by omega)]
theorem Srt.pairwise {lt : V → V → Bool} {n : Nat} {G : Nat → V} (h : Srt lt 0 n G) : (rowV n G).Pairwise (fun x y => lt y x = false) := by
 unfold rowV
 rw [List.pairwise_map]
 refine List.Pairwise.imp_of_mem ?_ List.pairwise_lt_range
 intro i j hi hj hij
 exact h i j (Nat.zero_le _) hij (List.mem_range.1 hj)
section
variable {cv : V} {D : V → Prop} {lt : V → V → Bool}
theorem ins_none {f : FuncId} {fn : Func} {ex : List Nat} (hf : Fn_ Tryz.prog f fn ex gins grins) {v : V} {σ : List O} : FSpecQ Tryz.prog f [v, .i .i64 0, .i .i64 0, cv] σ (fun w σ' => w = .tup [] ∧ σ' = σ) := by
 refine hf.specQ mixed noIt_ok ?_
 rw [gins]
 refine ab_seq_k fun K1 h1 => ?_
 simp [wrap64 (x := 1) (by omega) (by omega)]
 refine h1 _ _ _ ?_
 clear h1 K1
 refine ab_block_k fun K2 h2 => ?_
 refine ab_loop_k (fun m env σ' => env = [(0, v), (1, .i .i64 0), (2, .i .i64 0), (3, cv), (8, .i .i64 1)] ∧ σ' = σ) 0 ⟨by simp, rfl⟩ ?_
 rintro m env σ' ⟨rfl, rfl⟩ K3 h3
 rw [gins_1]
 refine ab_seq_k fun K4 h4 => ?_
 refine ab_seq_k fun K5 h5 => ?_
 simp
 refine h5 _ _ _ ?_
 clear h5 K5
 refine ab_cond_of rfl (fun h => by cases h) (fun _ => ?_)
 simp
 refine h2 _ _ _ (fin_Q ?_)
 simp [grins]
theorem pdq_none {pdqF insF heapF brkF pivF revF pisF peqF parF siftF madjF medF ord2F : FuncId} (hS : SortFns pdqF insF heapF brkF pivF revF pisF peqF parF siftF madjF medF ord2F) {v : V} {l : Int} {σ : List O} : FSpecQ Tryz.prog pdqF [v, .i .i64 0, .i .i64 0, .i .i64 l, cv] σ (fun w σ' => w = .tup [] ∧ σ' = σ) := by
 obtain ⟨_, _, hpdq⟩ := hS.pdq
 obtain ⟨_, _, hins⟩ := hS.ins
 refine hpdq.specQ mixed noIt_ok ?_
 rw [gpdq]
 refine ab_seq_k fun K1 h1 => ?_
 simp
 refine h1 _ _ _ ?_
 clear h1 K1
 refine ab_seq_k fun K2 h2 => ?_
 simp
 refine h2 _ _ _ ?_
 clear h2 K2
 refine ab_block_k fun K3 h3 => ?_
 refine ab_loop_k (fun m env σ' => env = [(0, v), (1, .i .i64 0), (2, .i .i64 0), (3, .i .i64 l), (4, cv), (10, .b true), (11, .b true)] ∧ σ' = σ) 0 ⟨by simp, rfl⟩ ?_
 rintro m env σ' ⟨rfl, rfl⟩ K4 h4
 rw [gpdq_0]
 refine ab_block_k fun K5 h5 => ?_
 refine ab_seq_k fun K6 h6 => ?_
 simp [wrap64 (x := 0) (by omega) (by omega)]
 refine h6 _ _ _ ?_
 clear h6 K6
 refine ab_seq_k fun K7 h7 => ?_
 refine ab_seq_k fun K8 h8 => ?_
 simp
 refine h8 _ _ _ ?_
 refine ab_cond_of rfl (fun _ => ?_) (fun h => by cases h)
 refine ab_seq_k fun K9 h9 => ?_
 simp
 refine callR_of (ins_none hins) ?_
 rintro w σ2 ⟨rfl, rfl⟩
 simp
 refine h9 _ _ _ ?_
 simp
 refine fin_Q ?_
 simp [grpdq]
theorem srt_ok {srtF pdqF insF heapF brkF pivF revF pisF peqF parF siftF madjF medF ord2F : FuncId} (hS : SortFns pdqF insF heapF brkF pivF revF pisF peqF parF siftF madjF medF ord2F) {fn : Func} {ex : List Nat} (hsrt : Fn_ Tryz.prog srtF fn ex (gsrt pdqF) grsrt) (hcmp : CmpOK cv D lt) {σ : List O} {id ver n : Nat} {F : Nat → V} (hn : n ≤ 60000) (hD : ∀ k, k < n → D (F k)) (hσ : σ[id]? = some (.row ver (rowV n F))) :
  FSpecQ Tryz.prog srtF [slV id ver n, cv] σ (SwQ σ id ver n 0 n F (Srt lt 0 n) (.tup [])) := by
 obtain ⟨hσ1, hσ'⟩ := List.getElem?_eq_some_iff.1 hσ
 refine hsrt.specQ mixed noIt_ok ?_
 rw [gsrt]
 obtain ⟨L, hL, hL1, -, -⟩ := len119 (x := n) (σ := σ) (by omega)
 refine ab_seq_k fun K1 h1 => ?_
 simp [hσ, hσ']
 refine h1 _ _ _ ?_
 clear h1 K1
 simp [wrapu64 (x := (n : Int)) (by omega) (by omega)]
 refine callR_of hL.toQ ?_
 rintro v σ' ⟨rfl, rfl⟩
 simp
 refine callR_of (pdq_ok hS hcmp hn (n + 1) (a := 0) (b := n) (lim := L) (by omega) hD (by omega) (by omega) (by omega) hσ (.inl rfl)) ?_
 rintro v σ' h
 simp
 refine fin_Q ?_
 obtain ⟨rfl, h2⟩ := h
 simp [grsrt]
 exact ⟨rfl, h2⟩
theorem srt_point {srtF pdqF insF heapF brkF pivF revF pisF peqF parF siftF madjF medF ord2F : FuncId} (hS : SortFns pdqF insF heapF brkF pivF revF pisF peqF parF siftF madjF medF ord2F) {fn : Func} {ex : List Nat} (hsrt : Fn_ Tryz.prog srtF fn ex (gsrt pdqF) grsrt) (hcmp : CmpOK cv D lt) (anti : ∀ x y, D x → D y → lt x y = false → lt y x = false → x = y) {σ : List O} {id ver n : Nat} {L S : List V} (hn : n ≤ 60000) (hln : L.length = n) (hD : ∀ x ∈ L, D x) (hp : S.Perm L) (hs : S.Pairwise (fun x y => lt y x = false)) (hσ : σ[id]? = some (.row ver L)) :
  FSpec Tryz.prog srtF [slV id ver n, cv] σ (.tup []) (σ.set id (.row ver S)) := by
 have e := rowV_getD hln
 rw [← e] at hσ
 have hD' : ∀ k, k < n → D (L.getD k .u) := fun k hk => by
  rw [List.getD_eq_getElem?_getD, List.getElem?_eq_getElem (by omega)]
  exact hD _ (List.getElem_mem _)
 refine FSpecQ.point ((srt_ok hS hsrt hcmp hn hD' hσ).imp ?_)
 rintro v σ' ⟨rfl, G, h1, h2, h3⟩
 refine ⟨rfl, ?_⟩
 rw [h3.is_]
 have hpg : (rowV n G).Perm L := by
  have := h1.perm (Nat.le_refl n)
  rwa [e] at this
 congr 2
 refine perm_sorted_eq (hpg.trans hp.symm) h2.pairwise hs fun x hx y hy a1 a2 => ?_
 exact anti x y (hD x (hpg.mem_iff.1 hx)) (hD y (hpg.mem_iff.1 hy)) a2 a1
theorem srt_nil {srtF pdqF insF heapF brkF pivF revF pisF peqF parF siftF madjF medF ord2F : FuncId} (hS : SortFns pdqF insF heapF brkF pivF revF pisF peqF parF siftF madjF medF ord2F) {fn : Func} {ex : List Nat} (hsrt : Fn_ Tryz.prog srtF fn ex (gsrt pdqF) grsrt) {σ : List O} : FSpec Tryz.prog srtF [.ss [] 0 true, cv] σ (.tup []) σ := by
 refine FSpecQ.point ?_
 refine hsrt.specQ mixed noIt_ok ?_
 rw [gsrt]
 obtain ⟨L, hL, hL1, -, -⟩ := len119 (x := 0) (σ := σ) (by omega)
 refine ab_seq_k fun K1 h1 => ?_
 simp
 refine h1 _ _ _ ?_
 clear h1 K1
 have w0 : IntKind.u64.wrap 0 = 0 := wrapu64 (by omega) (by omega)
 simp [w0]
 refine callR_of hL.toQ ?_
 rintro v σ' ⟨rfl, rfl⟩
 simp
 refine callR_of (pdq_none hS) ?_
 rintro v σ' ⟨rfl, rfl⟩
 simp
 refine fin_Q ?_
 simp [grsrt]
theorem srt_gr {srtF pdqF insF heapF brkF pivF revF pisF peqF parF siftF madjF medF ord2F : FuncId} (hS : SortFns pdqF insF heapF brkF pivF revF pisF peqF parF siftF madjF medF ord2F) {fn : Func} {ex : List Nat} (hsrt : Fn_ Tryz.prog srtF fn ex (gsrt pdqF) grsrt) (hcmp : CmpOK cv D lt) (anti : ∀ x y, D x → D y → lt x y = false → lt y x = false → x = y) {σ : List O} {v : V} {k n : Nat} {L S : List V} (hv : Gr k 1 σ v n L) (hn : n ≤ 60000) (hD : ∀ x ∈ L, D x) (hp : S.Perm L) (hs : S.Pairwise (fun x y => lt y x = false)) :
  ∃ σ', FSpec Tryz.prog srtF [v, cv] σ (.tup []) σ' ∧ Gr k 1 σ' v n S ∧ σ'.length = σ.length ∧ ∀ j, idOf v ≠ some j → σ'[j]? = σ[j]? := by
 have hl := hv.1
 rcases hv.cases with ⟨rfl, rfl, rfl⟩ | ⟨id, ver, hn0, hid, rfl, hσ, hlt⟩
 ·have : S = [] := List.Perm.eq_nil hp
  subst this
  exact ⟨σ, srt_nil hS hsrt, Gr.nil, rfl, fun _ _ => rfl⟩
 ·have hln : L.length = n := by simpa using hl
  refine ⟨_, srt_point hS hsrt hcmp anti hn hln hD hp hs hσ, ⟨by rw [hp.length_eq]; exact hl, .inr ⟨hn0, id, ver, hid, rfl, List.getElem?_set_self hlt⟩⟩, by simp, fun j hj => List.getElem?_set_ne (fun e => hj (by rw [← e]; rfl))⟩
end
theorem antiU : ∀ x y, DU x → DU y → setL (unU x) (unU y) = false → setL (unU y) (unU x) = false → x = y := by
 rintro x y ⟨s, hs, rfl⟩ ⟨t, ht, rfl⟩ h1 h2
 have := setL_tri (a := s) (b := t) hs ht (by simpa [unU, u16V] using h1) (by simpa [unU, u16V] using h2)
 rw [this]
theorem antiL : ∀ x y, DL x → DL y → lexL (unL x) (unL y) = false → lexL (unL y) (unL x) = false → x = y := by
 rintro x y ⟨s, hs, rfl⟩ ⟨t, ht, rfl⟩ h1 h2
 unfold listV at h1 h2 ⊢
 rw [unL_list, unL_list] at h1 h2
 rw [lexL_tri h1 h2]
theorem srtU {σ : List O} {v : V} {k n : Nat} {L S : List V} (hv : Gr k 1 σ v n L) (hn : n ≤ 60000) (hD : ∀ x ∈ L, DU x) (hp : S.Perm L) (hs : S.Pairwise (fun x y => setL (unU y) (unU x) = false)) :
  ∃ σ', FSpec Tryz.prog 102 [v, .f (.func 103) [] []] σ (.tup []) σ' ∧ Gr k 1 σ' v n S ∧ σ'.length = σ.length ∧ ∀ j, idOf v ≠ some j → σ'[j]? = σ[j]? := srt_gr sortA gf102 cmpU antiU hv hn hD hp hs
theorem srtL {σ : List O} {v : V} {k n : Nat} {L S : List V} (hv : Gr k 1 σ v n L) (hn : n ≤ 60000) (hD : ∀ x ∈ L, DL x) (hp : S.Perm L) (hs : S.Pairwise (fun x y => lexL (unL y) (unL x) = false)) :
  ∃ σ', FSpec Tryz.prog 108 [v, .f (.func 106) [] []] σ (.tup []) σ' ∧ Gr k 1 σ' v n S ∧ σ'.length = σ.length ∧ ∀ j, idOf v ≠ some j → σ'[j]? = σ[j]? := srt_gr sortB_ gf108 cmpL antiL hv hn hD hp hs
end Go.Ab
end
end
section
section
namespace Go.Ab
open Go Go.Proofs
theorem FSpecQ.freeze {P : Program} {f : FuncId} {args : List V} {Q : V → List O → Prop} {w : V} (h : FSpecQ P f args [] Q) (hq : ∀ v σ', Q v σ' → ∃ k, frz k 0 σ' v = w) : FSpec P f args [] w [] := by
 refine ⟨h.1, fun C cargs hR ha => (h.2 C cargs hR ha).mono ?_⟩
 rintro e w' ⟨C', cv, v, σ', hQ, rfl, rfl, h1, h2, h3⟩
 obtain ⟨k, hk⟩ := hq v σ' hQ
 have hR0 := frzS_sound (n := 0) h1 k (Nat.zero_le _)
 have e0 : frzS k 0 σ' = [] := by simp [frzS]
 rw [e0] at hR0
 refine ⟨C'.trunc 0, cv, rfl, rfl, hR0, trunc_ext h2 hR.wf (by have := hR.len; simp at this; omega), ?_⟩
 rw [← hk]
 exact frz_sound h1 k h3
def looseTo (J : List Lg) (s : Nat) (i : Nat) : Bool := ((bl s 12).take i).any fun n => decide (left J (less s (2 ^ n.toNat)) = 0)
def tightB (J : List Lg) (s : Nat) : Bool := decide (left J s = 0) && !looseTo J s 12
def keysTo (J : List Lg) (i : Nat) : List Nat := (List.range i).filter (tightB J)
theorem keysTo_succ {J : List Lg} {i : Nat} : keysTo J (i + 1) = if tightB J i then keysTo J i ++ [i] else keysTo J i := by
 unfold keysTo
 rw [List.range_succ, List.filter_append]
 cases h : tightB J i <;> simp [h]
theorem keysTo_len {J : List Lg} {i : Nat} : (keysTo J i).length ≤ i := by
 have := List.length_filter_le (tightB J) (List.range i)
 rw [List.length_range] at this
 exact this
theorem looseTo_succ {J : List Lg} {s i : Nat} {x : Int} (h : (bl s 12)[i]? = some x) : looseTo J s (i + 1) = (looseTo J s i || decide (left J (less s (2 ^ x.toNat)) = 0)) := by
 unfold looseTo
 rw [List.take_add_one, h, List.any_append]
 simp
theorem less_lt {s b N : Nat} (h : s < 2 ^ N) : less s b < 2 ^ N := Nat.lt_of_le_of_lt less_le h
theorem keys77 {J : List Lg} {f : Bool} {σ : List O} (hN : J.length ≤ 12) : FSpecQ Tryz.prog 77 [heapV J f] σ (fun v σ' => Gr σ.length 1 σ' v (keysTo J (2 ^ J.length)).length (us (keysTo J (2 ^ J.length))) ∧ ∀ j, j < σ.length → σ'[j]? = σ[j]?) := by
 have hh : (cellsOf (heapV J f)) = some [heapV J f] := rfl
 have hst := fun σ s hs => stays67 (J := J) (f := f) (s := s) (σ := σ) hN hs
 have hat : ∀ σ, HeapAt J f (heapV J f) σ := fun σ => .inl ⟨_, _, rfl⟩
 have hpw := pow12 hN
 have hlb : ∀ s, s < 2 ^ J.length → s < 65536 := fun s h => by omega
 refine fn77.specQ mixed itT_ok ?_
 rw [ic77]
 generalize heapV J f = H at *
 refine ab_seq_k fun K1 h1 => ?_
 simp [hh]
 refine h1 _ _ _ ?_
 clear h1 K1
 refine ab_seq_k fun K2 h2 => ?_
 simp
 refine h2 _ _ _ ?_
 clear h2 K2
 refine ab_seq_k fun K3 h3 => ?_
 refine ab_seq_k fun K4 h4 => ?_
 simp
 refine callK_of (sets91 hh) ?_
 simp
 refine h4 _ _ _ ?_
 clear h4 K4
 refine ab_block_k fun K5 h5 => ?_
 generalize hL0 : σ.length = L0 at *
 generalize hW : 2 ^ J.length = W at *
 refine ⟨W, XSet, SetAt J f (L0 + 1 + 1) H, sets_it hN hW, fun i σ2 => (∀ j, j < L0 → σ2[j]? = σ[j]?) ∧ σ2[L0]? = some (.row 0 [H]) ∧ σ2[L0 + 1 + 1]? = some (.row 0 [H]) ∧ ∃ v, σ2[L0 + 1]? = some (.row 0 [v]) ∧ Gr (L0 + 3) 1 σ2 v (keysTo J i).length (us (keysTo J i)), fun i σ2 h => ⟨h.2.2.1, hat _⟩, ⟨?_, ?_, ?_, .ss [] 0 true, ?_, ?_⟩, ?_, ?_⟩
 ·intro j hj
  rw [List.getElem?_append_left (by omega)]
 ·rw [List.getElem?_append_right (by omega), hL0, Nat.sub_self]; rfl
 ·rw [List.getElem?_append_right (by omega), hL0, show L0 + 1 + 1 - L0 = 2 by omega]; rfl
 ·rw [List.getElem?_append_right (by omega), hL0, show L0 + 1 - L0 = 1 by omega]; rfl
 ·simpa [keysTo, us] using Gr.nil
 ·rintro i x σ2 g hi ⟨rfl, rfl⟩ ⟨qo, q0, q2, v, q1, hv⟩
  refine ⟨rfl, ?_⟩
  generalize hKR : roundK _ _ _ = KR
  rw [List.append_nil]
  simp
  rw [ic77_1]
  have hi16 := hlb i hi
  obtain ⟨hq0, q0'⟩ := List.getElem?_eq_some_iff.1 q0
  obtain ⟨hq1, q1'⟩ := List.getElem?_eq_some_iff.1 q1
  obtain ⟨hq2, -⟩ := List.getElem?_eq_some_iff.1 q2
  have hlen := bl_len (s := i) (k := 12)
  have hdone : ∀ σ3 v, (∀ j, j < L0 → σ3[j]? = σ[j]?) → σ3[L0]? = some (.row 0 [H]) → σ3[L0 + 1 + 1]? = some (.row 0 [H]) → σ3[L0 + 1]? = some (.row 0 [v]) → Gr (L0 + 3) 1 σ3 v (keysTo J (i + 1)).length (us (keysTo J (i + 1))) → ∀ env, KR (some 0) env σ3 := by
   intro σ3 v a0 a1 a2 a3 a4 env
   rw [← hKR]
   exact ⟨rfl, .inl ⟨a0, a1, a2, v, a3, a4⟩⟩
  clear hKR
  refine ab_block_k fun K16 h16 => ?_
  refine ab_seq_k fun K17 h17 => ?_
  simp
  refine h17 _ _ _ ?_
  clear h17 K17
  refine ab_seq_k fun K18 h18 => ?_
  refine ab_seq_k fun K19 h19 => ?_
  simp
  refine callK_of (list68 hi16) ?_
  simp
  refine h19 _ _ _ ?_
  clear h19 K19
  refine ab_block_k fun K20 h20 => ?_
  refine ab_loop_k (fun m env σ => ∃ n : Nat, n + m = (bl i 12).length ∧ env = [(1, .p L0 0 0), (3, .p (L0 + 1) 0 0), (4, .i .u16 i), (5, .b (looseTo J i n)), (12, sl (bl i 12) ((bl i 12).length == 0)), (13, .i .i64 (bl i 12).length), (14, .i .i64 n)] ∧ σ = σ2) (bl i 12).length ⟨0, by omega, by simp [looseTo], rfl⟩ ?_
  rintro m env σ3 ⟨n, hn, rfl, rfl⟩ K21 h21
  rw [ic77_0]
  refine ab_seq_k fun K22 h22 => ?_
  simp
  refine h22 _ _ _ ?_
  clear h22 K22
  refine ab_seq_k fun K23 h23 => ?_
  refine ab_cond_of rfl (fun hc => ?_) (fun hc => ?_)
  ·have hnl : n < (bl i 12).length := by simpa using hc
   obtain ⟨b1, b2, bm⟩ := getD_get hnl
   have hls := looseTo_succ (J := J) b1
   obtain ⟨x, hx12, hxe, hxb⟩ := bl_mem.1 bm
   generalize (bl i 12).getD n 0 = y at *
   subst hxe
   rw [Int.toNat_natCast] at hls
   have hp2 : 2 ^ x < 65536 := by
    have : 2 ^ x < 2 ^ 16 := Nat.pow_lt_pow_right (by omega) (by omega)
    omega
   have e3 := shl_nat' (m := x) (by omega)
   have e4 := andNot_nat (a := i) (b := 2 ^ x) hi16 hp2
   have hll : less i (2 ^ x) < W := by rw [← hW]; exact less_lt (by rw [hW]; exact hi)
   have hlk := left_lt (J := J) (s := less i (2 ^ x)) hN
   generalize hpw2 : 2 ^ x = pw at *
   simp
   refine h23 _ _ _ ?_
   clear h23 K23
   refine ab_seq_k fun K24 h24 => ?_
   refine ab_block_k fun K25 h25 => ?_
   refine ab_seq_k fun K26 h26 => ?_
   simp [hnl, b1, b2]
   refine h26 _ _ _ ?_
   clear h26 K26
   have hend : ∀ env, get env 1 = .p L0 0 0 → get env 3 = .p (L0 + 1) 0 0 → get env 4 = .i .u16 i → get env 5 = .b (looseTo J i (n + 1)) → get env 12 = sl (bl i 12) ((bl i 12).length == 0) → get env 13 = .i .i64 (bl i 12).length → get env 14 = .i .i64 n → K25 (some 0) env σ3 := by
    intro env w1 w3 w4 w5 w12 w13 w14
    refine h25 _ _ _ (h24 _ _ _ ?_)
    simp [w1, w3, w4, w5, w12, w13, w14, wrap64 (x := (n : Int) + 1) (by omega) (by omega)]
    exact h21 _ _ _ (again (m - 1) (by omega) ⟨n + 1, by omega, by simp, rfl⟩)
   clear h24 h25 h21
   cases hlo : looseTo J i n with
   | true =>
    rw [hlo] at hls
    simp [abDs_consU, drU, recheck_cons, recheck_nil, rcK, IS.dst]
    exact hend _ rfl rfl rfl (by rw [hls]; rfl) rfl rfl rfl
   | false =>
    rw [hlo] at hls
    simp [abDs_consU, drU, recheck_cons, recheck_nil, rcK, IS.dst, e3, q0, q0']
    rw [e4]
    refine callK_of (hst _ _ hll) ?_
    simp [abDs_consU, drU, recheck_cons, recheck_nil, rcK, IS.dst]
    refine hend _ rfl rfl rfl ?_ rfl rfl rfl
    rw [hls]
    simp
  ·have hnl : n = (bl i 12).length := by simp at hc; omega
   have hlast : looseTo J i n = looseTo J i 12 := by
    unfold looseTo
    rw [List.take_of_length_le (by omega), List.take_of_length_le (by omega)]
   rw [hlast]
   have htb : tightB J i = (decide (left J i = 0) && !looseTo J i 12) := rfl
   have hks := keysTo_succ (J := J) (i := i)
   have hkl := keysTo_len (J := J) (i := i)
   simp
   refine h20 _ _ _ (h18 _ _ _ ?_)
   clear h18 h20 h21 h23
   refine ab_seq_k fun K30 h30 => ?_
   simp [q0, q0']
   refine callK_of (hst _ _ hi) ?_
   have hK30 : ∀ env c, get env 3 = .p (L0 + 1) 0 0 → get env 4 = .i .u16 i → get env 36 = .b c → c = tightB J i → K30 (some 0) env σ3 := by
    intro env c w3 w4 w36 hcv
    refine h30 _ _ _ ?_
    clear h30
    cases c with
    | false =>
     rw [← hcv, if_neg (by simp)] at hks
     refine ab_cond_of w36 (fun h => by cases h) (fun _ => ?_)
     simp
     refine h16 _ _ _ ?_
     exact hdone σ3 v qo q0 q2 q1 (by rw [hks]; exact hv) _
    | true =>
     rw [← hcv, if_pos rfl] at hks
     refine ab_cond_of w36 (fun _ => ?_) (fun h => by cases h)
     simp [w3, w4, q1, q1']
     refine appG hv (by omega) (by omega) (by omega) rfl ?_
     intro v' σ' hv' hgr
     have hbid : ∀ j, j < L0 + 3 → idOf v ≠ some j := fun j hj e => by have := (hv.id_ge e).1; omega
     have r0 := hgr.get (hbid L0 (by omega)) q0
     have r1 := hgr.get (hbid (L0 + 1) (by omega)) q1
     have r2 := hgr.get (hbid (L0 + 1 + 1) (by omega)) q2
     obtain ⟨hr1, r1'⟩ := List.getElem?_eq_some_iff.1 r1
     simp [w3, w4, r1, r1', hv'.one]
     refine h16 _ _ _ ?_
     refine hdone _ v' ?_ ?_ ?_ (List.getElem?_set_self hr1) ?_ _
     ·intro j hj
      rw [List.getElem?_set_ne (by omega), ← qo j hj]
      exact hgr.keep j (by omega) (hbid j (by omega))
     ·rw [List.getElem?_set_ne (by omega)]; exact r0
     ·rw [List.getElem?_set_ne (by omega)]; exact r2
     ·have h1 := hv'.setlt (i := L0 + 1) (o := O.row 0 [v']) (by omega)
      rw [hks]
      simpa [us] using h1
   clear h30 hdone
   by_cases hl0 : left J i = 0
   ·rw [hl0]
    simp
    refine hK30 _ _ rfl rfl rfl ?_
    rw [htb, hl0]
    simp
   ·simp [hl0]
    refine hK30 _ false rfl rfl rfl ?_
    rw [htb]
    simp [hl0]
 ·rintro σ2 ⟨qo, q0, q2, v, q1, hv⟩
  refine h5 _ _ _ (h3 _ _ _ ?_)
  obtain ⟨hq1, q1'⟩ := List.getElem?_eq_some_iff.1 q1
  refine ab_seq_k fun K30 h30 => ?_
  simp [q1, q1']
  refine h30 _ _ _ ?_
  clear h30 K30
  simp
  refine fin_Q ?_
  simp [rs77]
  exact ⟨hv.mono (by omega), qo⟩
theorem keys77F {J : List Lg} {f : Bool} {σ : List O} (hN : J.length ≤ 12) : FSpec Tryz.prog 77 [heapV J f] σ (.ss (us (keysTo J (2 ^ J.length))) (keysTo J (2 ^ J.length)).length ((keysTo J (2 ^ J.length)).length == 0)) σ := by
 refine FSpec.frame (σ := σ) ?_ (by simp) (by simp)
 exact (keys77 hN).freeze fun v σ' h => ⟨2, frz_G h.1 (by simp)⟩
end Go.Ab
end
section
namespace Go.Ab
open Go Go.Proofs
theorem snoc_ind {α : Type} {P : List α → Prop} (h0 : P []) (h1 : ∀ l a, P l → P (l ++ [a])) (l : List α) : P l := by
 have : ∀ m : List α, P m.reverse := by
  intro m
  induction m with
  | nil => exact h0
  | cons a m ih => rw [List.reverse_cons]; exact h1 _ _ ih
 have := this l.reverse
 rwa [List.reverse_reverse] at this
def insGV {α : Type} (lt : α → α → Bool) (x : α) : List α → List α
 | [] => [x]
 | y :: r => if lt x y = true then y :: insGV lt x r else x :: y :: r
def insG {α : Type} (lt : α → α → Bool) (l : List α) (x : α) : List α := (insGV lt x l.reverse).reverse
def sortG {α : Type} (lt : α → α → Bool) (l : List α) : List α := l.foldl (insG lt) []
theorem insGV_all {α : Type} {lt : α → α → Bool} {x : α} : ∀ {B A : List α}, (∀ y ∈ B, lt x y = true) → insGV lt x (B ++ A) = B ++ insGV lt x A
 | [], A, _ => rfl
 | y :: B, A, h => by
  rw [List.cons_append, insGV, if_pos (h y (List.mem_cons_self ..)), insGV_all (B := B) (fun z hz => h z (List.mem_cons_of_mem _ hz))]
  rfl
theorem insG_all {α : Type} {lt : α → α → Bool} {x : α} {A B : List α} (h : ∀ y ∈ B, lt x y = true) : insG lt (A ++ B) x = insG lt A x ++ B := by
 unfold insG
 rw [List.reverse_append, insGV_all (fun y hy => h y (List.mem_reverse.1 hy)), List.reverse_append, List.reverse_reverse]
theorem insG_at {α : Type} {lt : α → α → Bool} {x : α} {l : List α} {j : Nat} (h1 : ∀ y ∈ l.drop j, lt x y = true) (h2 : ∀ y, 0 < j → l[j - 1]? = some y → ¬ lt x y = true) (hj : j ≤ l.length) : insG lt l x = l.take j ++ x :: l.drop j := by
 have e : l = l.take j ++ l.drop j := (List.take_append_drop j l).symm
 have : insG lt l x = insG lt (l.take j) x ++ l.drop j := by
  rw [← insG_all h1, List.take_append_drop]
 rw [this]
 cases j with
 | zero => simp [insG, insGV]
 | succ j =>
  have hjl : j < l.length := by omega
  have hy : l[j]? = some l[j] := List.getElem?_eq_getElem hjl
  have hn := h2 l[j] (by omega) hy
  have ht : l.take (j + 1) = l.take j ++ [l[j]] := by rw [List.take_add_one, hy]; rfl
  rw [ht]
  unfold insG
  rw [List.reverse_append, List.reverse_singleton, List.singleton_append, insGV, if_neg hn]
  simp
theorem insG_mem {α : Type} {lt : α → α → Bool} {x y : α} {l : List α} : y ∈ insG lt l x ↔ y = x ∨ y ∈ l := by
 have : ∀ l : List α, y ∈ insGV lt x l ↔ y = x ∨ y ∈ l := by
  intro l
  induction l with
  | nil => simp [insGV]
  | cons z r ih =>
   rw [insGV]
   split
   ·rw [List.mem_cons, ih, List.mem_cons]
    constructor <;> intro h <;> rcases h with h | h | h <;> simp [h]
   ·simp
 unfold insG
 rw [List.mem_reverse, this, List.mem_reverse]
theorem insG_len {α : Type} {lt : α → α → Bool} {x : α} {l : List α} : (insG lt l x).length = l.length + 1 := by
 have : ∀ l : List α, (insGV lt x l).length = l.length + 1 := by
  intro l
  induction l with
  | nil => rfl
  | cons z r ih => rw [insGV]; split <;> simp [ih]
 unfold insG
 rw [List.length_reverse, this, List.length_reverse]
theorem sortG_snoc {α : Type} {lt : α → α → Bool} {l : List α} {x : α} : sortG lt (l ++ [x]) = insG lt (sortG lt l) x := by simp [sortG]
theorem sortG_len {α : Type} {lt : α → α → Bool} {l : List α} : (sortG lt l).length = l.length := by
 have : ∀ (l acc : List α), (l.foldl (insG lt) acc).length = acc.length + l.length := by
  intro l
  induction l with
  | nil => intro acc; rfl
  | cons x l ih => intro acc; rw [List.foldl_cons, ih, insG_len, List.length_cons]; omega
 rw [sortG, this]; simp
theorem insG_perm {α : Type} {lt : α → α → Bool} {x : α} {l : List α} : (insG lt l x).Perm (x :: l) := by
 have : ∀ l : List α, (insGV lt x l).Perm (x :: l) := by
  intro l
  induction l with
  | nil => exact List.Perm.refl _
  | cons z r ih =>
   rw [insGV]
   split
   ·exact (List.Perm.cons z ih).trans (List.Perm.swap ..)
   ·exact List.Perm.refl _
 unfold insG
 exact (List.reverse_perm _).trans ((this _).trans (List.Perm.cons x (List.reverse_perm l)))
theorem sortG_perm {α : Type} {lt : α → α → Bool} {l : List α} : (sortG lt l).Perm l := by
 refine snoc_ind (P := fun l => (sortG lt l).Perm l) (List.Perm.refl _) ?_ l
 intro l a ih
 rw [sortG_snoc]
 refine insG_perm.trans ?_
 refine (List.Perm.cons a ih).trans ?_
 exact (List.perm_append_singleton a l).symm
def atG {α : Type} (l : List α) (x : α) (j : Nat) : List α := l.take j ++ x :: l.drop j
theorem atG_len {α : Type} {l : List α} {x : α} {j : Nat} (h : j ≤ l.length) : (atG l x j).length = l.length + 1 := by simp [atG]; omega
theorem atG_end {α : Type} {l : List α} {x : α} : atG l x l.length = l ++ [x] := by simp [atG]
theorem atG_get {α : Type} {l : List α} {x : α} {j : Nat} (h : j ≤ l.length) : (atG l x j)[j]? = some x := by
 unfold atG
 rw [List.getElem?_append_right (by rw [List.length_take]; omega)]
 simp [List.length_take, Nat.min_eq_left h]
theorem atG_prev {α : Type} {l : List α} {x : α} {j : Nat} (h : j < l.length) : (atG l x (j + 1))[j]? = l[j]? := by
 unfold atG
 rw [List.getElem?_append_left (by rw [List.length_take]; omega)]
 simp
theorem atG_swap {α : Type} {l : List α} {x y : α} {j : Nat} (h : l[j]? = some y) : ((atG l x (j + 1)).set (j + 1) y).set j x = atG l x j := by
 obtain ⟨hj, he⟩ := List.getElem?_eq_some_iff.1 h
 unfold atG
 have h1 : l.take (j + 1) = l.take j ++ [y] := by rw [List.take_add_one, h]; rfl
 have h2 : l.drop j = y :: l.drop (j + 1) := by rw [← he]; exact (List.drop_eq_getElem_cons hj)
 have h3 : (l.take j).length = j := by rw [List.length_take]; omega
 rw [h1, h2, List.append_assoc, List.set_append_right (h := by omega), h3, show j + 1 - j = 1 by omega]
 simp only [List.singleton_append, List.set_cons_succ, List.set_cons_zero]
 rw [List.set_append_right (h := by omega), h3, Nat.sub_self]
 rfl
theorem insGV_sorted {α : Type} {lt : α → α → Bool} (has : ∀ a b, lt a b = true → lt b a = false) (hntr : ∀ a b c, lt a b = false → lt b c = false → lt a c = false) {x : α} : ∀ {l : List α}, l.Pairwise (fun a b => lt a b = false) → (insGV lt x l).Pairwise (fun a b => lt a b = false)
 | [], _ => by simp [insGV]
 | z :: r, h => by
  rw [insGV]
  rw [List.pairwise_cons] at h
  split
  ·rename_i hlt
   rw [List.pairwise_cons]
   refine ⟨fun y hy => ?_, insGV_sorted has hntr h.2⟩
   have : y ∈ insG lt r.reverse x := by unfold insG; rw [List.reverse_reverse, List.mem_reverse]; exact hy
   rw [insG_mem, List.mem_reverse] at this
   rcases this with rfl | hr
   ·exact has _ _ hlt
   ·exact h.1 y hr
  ·rename_i hlt
   have hz : lt x z = false := by simpa using hlt
   rw [List.pairwise_cons]
   refine ⟨fun y hy => ?_, List.pairwise_cons.2 h⟩
   rcases List.mem_cons.1 hy with rfl | hr
   ·exact hz
   ·exact hntr _ _ _ hz (h.1 y hr)
theorem sortG_sorted {α : Type} {lt : α → α → Bool} (has : ∀ a b, lt a b = true → lt b a = false) (hntr : ∀ a b c, lt a b = false → lt b c = false → lt a c = false) {l : List α} : (sortG lt l).Pairwise (fun a b => lt b a = false) := by
 refine snoc_ind (P := fun l => (sortG lt l).Pairwise (fun a b => lt b a = false)) (by simp [sortG]) ?_ l
 intro l a ih
 rw [sortG_snoc]
 unfold insG
 rw [List.pairwise_reverse]
 refine insGV_sorted has hntr ?_
 rw [List.pairwise_reverse]
 exact ih
def lexN (s t : Nat) : Bool := lexL (bl s 12) (bl t 12)
def lexS (l : List Nat) : List Nat := sortG lexN l
theorem lexS_sorted {l : List Nat} : (lexS l).Pairwise (fun a b => lexN b a = false) := sortG_sorted (lt := lexN) (fun a b h => lexL_asym h) (fun a b c h1 h2 => lexL_ntr h1 h2)
theorem lexS_perm {l : List Nat} : (lexS l).Perm l := sortG_perm
theorem lexS_len {l : List Nat} : (lexS l).length = l.length := sortG_len
def lv (l : List Nat) : List V := l.map listV
theorem listV_pure {s : Nat} : (listV s).pure = true := by simp [listV]
@[simp] theorem lv_pure {l : List Nat} : pureL (lv l) = true := by
 rw [pureL_all]
 intro x hx
 obtain ⟨s, -, rfl⟩ := List.mem_map.1 hx
 exact listV_pure
theorem lv_append {l m : List Nat} : lv (l ++ m) = lv l ++ lv m := by simp [lv]
theorem slcHM {es len : Nat} {σ : List O} {v : V} {C : Ct} {k n : Nat} {cs : List V} (h : Gr k es σ v n cs) (hC : C v σ) : slcC es v none (some (.i .i64 n)) (some (.i .i64 n)) σ C := by
 rcases h.cases with ⟨rfl, rfl, rfl⟩ | ⟨id, ver, hn, hid, rfl, hs, hlt⟩
 ·simpa using hC
 ·obtain ⟨h1, h2⟩ := List.getElem?_eq_some_iff.1 hs
  simp [hs, h2, liveV]
  exact hC
theorem lists76 {L : List Nat} {f : Bool} {σ : List O} (hL : ∀ s ∈ L, s < 2 ^ 12) (hl : L.length ≤ 60000) : FSpec Tryz.prog 76 [.ss (us L) L.length f] σ (.ss (lv (lexS L)) L.length (L.length == 0)) σ := by
 refine FSpec.frame (σ := σ) ?_ (by simp) (by simp)
 refine fn76.spec0 mixed noIt_ok ?_
 rw [ic76]
 refine ab_seq_k fun K1 h1 => ?_
 simp
 refine h1 _ _ _ ?_
 clear h1 K1
 refine ab_seq_k fun K2 h2 => ?_
 simp
 refine h2 _ _ _ ?_
 clear h2 K2
 refine ab_seq_k fun K3 h3 => ?_
 refine ab_seq_k fun K4 h4 => ?_
 simp
 refine h4 _ _ _ ?_
 clear h4 K4
 refine ab_block_k fun K5 h5 => ?_
 refine ab_loop_k (fun m env σ => ∃ (i : Nat) (v : V), i + m = L.length ∧ env = [(3, v), (6, .ss (us L) L.length f), (7, .i .i64 L.length), (8, .i .i64 i)] ∧ Gr 0 1 σ v i (lv (L.take i))) L.length ⟨0, .ss [] 0 true, by omega, by simp, by simpa [lv] using Gr.nil⟩ ?_
 rintro m env σ ⟨i, v, hi, rfl, hv⟩ K6 h6
 rw [ic76_0]
 refine ab_seq_k fun K7 h7 => ?_
 simp
 refine h7 _ _ _ ?_
 clear h7 K7
 refine ab_seq_k fun K8 h8 => ?_
 refine ab_cond_of rfl (fun hc => ?_) (fun hc => ?_)
 ·have hil : i < L.length := by simpa using hc
  have hx : L[i]? = some L[i] := List.getElem?_eq_getElem hil
  have hxm : L[i] ∈ L := List.getElem_mem hil
  have htk : lv (L.take (i + 1)) = lv (L.take i) ++ [listV L[i]] := by rw [List.take_add_one, hx, lv_append]; rfl
  generalize L[i] = s at *
  have hs := hL s hxm
  obtain ⟨hx1, hx'⟩ := List.getElem?_eq_some_iff.1 hx
  simp
  refine h8 _ _ _ ?_
  clear h8 K8
  refine ab_seq_k fun K9 h9 => ?_
  refine ab_block_k fun K10 h10 => ?_
  refine ab_seq_k fun K11 h11 => ?_
  simp [hil, hx, hx']
  refine h11 _ _ _ ?_
  clear h11 K11
  simp [abDs_consU, drU, recheck_cons, recheck_nil, rcK, IS.dst]
  refine lenG hv ?_
  simp [abDs_consU, drU, recheck_cons, recheck_nil, rcK, IS.dst]
  refine lenG hv ?_
  simp [abDs_consU, drU, recheck_cons, recheck_nil, rcK, IS.dst]
  refine slcHM (len := 0) hv ?_
  simp [abDs_consU, drU, recheck_cons, recheck_nil, rcK, IS.dst]
  refine callK_of (list68 (by omega)) ?_
  simp [abDs_consU, drU, recheck_cons, recheck_nil, rcK, IS.dst]
  refine appG hv (by omega) (by omega) (by omega) rfl ?_
  intro v' σ' hv' hgr
  simp [abDs_consU, drU, recheck_cons, recheck_nil, rcK, IS.dst]
  refine h10 _ _ _ (h9 _ _ _ ?_)
  simp [wrap64 (x := (i : Int) + 1) (by omega) (by omega)]
  exact h6 _ _ _ (again (m - 1) (by omega) ⟨i + 1, v', by omega, by simp, by rw [htk]; exact hv'⟩)
 ·have hil : i = L.length := by simp at hc; omega
  subst hil
  rw [List.take_length] at hv
  simp
  refine h5 _ _ _ (h3 _ _ _ ?_)
  clear h3 h5 h6 h8
  have hD : ∀ x ∈ lv L, DL x := fun x hx => by
   obtain ⟨s, hs, rfl⟩ := List.mem_map.1 hx
   exact ⟨s, hL s hs, rfl⟩
  have hp : (lv (lexS L)).Perm (lv L) := lexS_perm.map _
  have hso : (lv (lexS L)).Pairwise (fun x y => lexL (unL y) (unL x) = false) := by
   unfold lv
   rw [List.pairwise_map]
   refine lexS_sorted.imp fun {a b} h => ?_
   simp only [listV, unL_list]
   exact h
  obtain ⟨σ', hsrt, hv', -, -⟩ := srtL hv hl hD hp hso
  refine ab_seq_k fun K20 h20 => ?_
  simp
  refine callK_of (hsrt) ?_
  simp
  refine h20 _ _ _ ?_
  clear h20 K20
  refine ab_seq_k fun K21 h21 => ?_
  simp
  refine h21 _ _ _ ?_
  clear h21 K21
  simp
  refine fin_of 2 ?_
  simp [-frz, rs76]
  rw [frz_G hv' (by simp)]
end Go.Ab
end
section
namespace Go.Ab
open Go Go.Proofs
theorem bl_sublen {s t : Nat} (h : ∀ j, s.testBit j = true → t.testBit j = true) : ∀ {k : Nat}, (bl s k).length ≤ (bl t k).length
 | 0 => Nat.le_refl _
 | k + 1 => by
  have ih := bl_sublen h (k := k)
  simp only [bl]
  cases hs : s.testBit k with
  | true => rw [h k hs]; simp; exact ih
  | false =>
   cases ht : t.testBit k <;> simp <;> omega
theorem bl_lt {s t : Nat} (h : ∀ j, s.testBit j = true → t.testBit j = true) : ∀ {k : Nat}, (∃ j, j < k ∧ s.testBit j = false ∧ t.testBit j = true) → (bl s k).length < (bl t k).length
 | 0, ⟨j, hj, _⟩ => by omega
 | k + 1, ⟨j, hj, h1, h2⟩ => by
  have hle := bl_sublen h (k := k)
  simp only [bl]
  by_cases hjk : j = k
  ·subst hjk
   rw [h1, h2]
   simp; omega
  ·have ih := bl_lt h (k := k) ⟨j, by omega, h1, h2⟩
   cases hs : s.testBit k with
   | true => rw [h k hs]; simp; exact ih
   | false =>
    cases ht : t.testBit k <;> simp <;> omega
theorem least_ex {p : Nat → Prop} {m : Nat → Nat} : ∀ (k : Nat), (∃ s, p s ∧ m s ≤ k) → ∃ s, p s ∧ ∀ t, p t → m s ≤ m t
 | 0, ⟨s, h1, h2⟩ => ⟨s, h1, fun t _ => by omega⟩
 | k + 1, ⟨s, h1, h2⟩ => by
  by_cases h : ∃ t, p t ∧ m t ≤ k
  ·exact least_ex k h
  ·refine ⟨s, h1, fun t ht => ?_⟩
   false_or_by_contra
   exact h ⟨t, ht, by omega⟩
theorem open_nil {J : List Lg} {f : Bool} (hl : ∀ x ∈ J, x.2.1.length ≤ 1000000) : (checkJ J ≠ 0 ∧ openV J f [] = .tup [.np, .i .i64 (checkJ J)]) ∨ (checkJ J = 0 ∧ JOK J ∧ openV J f [] = .tup [heapV J f, .i .i64 0]) := by
 by_cases hc : checkJ J = 0
 ·exact .inr ⟨hc, check_ok hl hc, by unfold openV; rw [if_neg (by simp [hc]), if_neg (by simp [isL, isLF])]⟩
 ·exact .inl ⟨hc, by unfold openV; rw [if_pos hc]⟩
end Go.Ab
end
end
section
namespace Go.Ab
open Go Go.Proofs
def SlP (σ : List O) (v : V) (cs : List V) : Prop := (∃ f, v = .ss cs cs.length f) ∨ ∃ id ver rest, v = .s id ver 0 cs.length 1 ∧ σ[id]? = some (.row ver (cs ++ rest))
theorem Gr.slp {k n : Nat} {σ : List O} {v : V} {cs : List V} (h : Gr k 1 σ v n cs) : SlP σ v cs := by
 have hl := h.1
 rcases h.cases with ⟨rfl, rfl, rfl⟩ | ⟨id, ver, hn, hid, rfl, hs, hlt⟩
 ·exact .inl ⟨true, rfl⟩
 ·have : n = cs.length := by simpa using hl.symm
  exact .inr ⟨id, ver, [], by rw [this], by rw [List.append_nil]; exact hs⟩
theorem SlP.len {σ : List O} {v : V} {cs : List V} {C : Ct} (h : SlP σ v cs) (hC : C (.i .i64 cs.length) σ) : lenC v σ C := by
 rcases h with ⟨f, rfl⟩ | ⟨id, ver, rest, rfl, hs⟩
 ·simpa using hC
 ·simp only [lenC, lenK, liveV, hs]
  exact ⟨rfl, hC⟩
theorem SlP.ixs {σ : List O} {v : V} {cs : List V} {i : Nat} {x : V} {C : Ct} (h : SlP σ v cs) (hx : cs[i]? = some x) (hC : ∀ a, (∀ C', C' x σ → ld1C a σ C') → C a σ) : ixsC 1 v (.i .i64 i) σ C := by
 have hil := (List.getElem?_eq_some_iff.1 hx).1
 rcases h with ⟨f, rfl⟩ | ⟨id, ver, rest, rfl, hs⟩
 ·simp [hil]
  refine hC _ fun C' h' => ?_
  obtain ⟨h1, h2⟩ := List.getElem?_eq_some_iff.1 hx
  simp [hx, h2]
  exact h'
 ·obtain ⟨g1, g2⟩ := List.getElem?_eq_some_iff.1 hs
  simp [hs, g2, hil]
  refine hC _ fun C' h' => ?_
  have : (cs ++ rest)[i]? = some x := by rw [List.getElem?_append_left hil]; exact hx
  obtain ⟨h1, h2⟩ := List.getElem?_eq_some_iff.1 this
  simp [hs, g2, this]
  exact h'
theorem SlP.frz {σ : List O} {v : V} {cs : List V} (h : SlP σ v cs) (hp : pureL cs = true) : ∃ f, frz 2 0 σ v = .ss cs cs.length f := by
 rcases h with ⟨f, rfl⟩ | ⟨id, ver, rest, rfl, hs⟩
 ·exact ⟨f, frz_pure (by simpa using hp)⟩
 ·refine ⟨false, ?_⟩
  rw [Go.Ab.frz]
  simp only [V.pure, Bool.false_eq_true, if_false, Nat.not_lt_zero, hs]
  rw [if_pos ⟨trivial, by simp⟩]
  rw [List.drop_zero, Nat.mul_one, List.take_left, map_frz hp]
def SlL (σ : List O) (v : V) (cs : List V) : Prop := ∃ id ver rest, v = .s id ver 0 cs.length 1 ∧ σ[id]? = some (.row ver (cs ++ rest))
theorem SlL.slp {σ : List O} {v : V} {cs : List V} (h : SlL σ v cs) : SlP σ v cs := .inr h
theorem SlL.frz {σ : List O} {v : V} {cs : List V} (h : SlL σ v cs) (hp : pureL cs = true) : Go.Ab.frz 2 0 σ v = .ss cs cs.length false := by
 obtain ⟨id, ver, rest, rfl, hs⟩ := h
 rw [Go.Ab.frz]
 simp only [V.pure, Bool.false_eq_true, if_false, Nat.not_lt_zero, hs]
 rw [if_pos ⟨trivial, by simp⟩]
 rw [List.drop_zero, Nat.mul_one, List.take_left, map_frz hp]
theorem us_get {L : List Nat} {i s : Nat} (h : L[i]? = some s) : (us L)[i]? = some (u16V s) := by unfold us u16V; rw [List.getElem?_map, h]; rfl
theorem us_append {L M : List Nat} : us (L ++ M) = us L ++ us M := by simp [us]
theorem index109 {L : List Nat} {v : V} {fp : FuncId} {first cap : List V} {p : Nat → Bool} {σ : List O} (hv : SlP σ v (us L)) (hl : L.length ≤ 60000) (hp : ∀ x ∈ L, FSpec Tryz.prog fp (first ++ [u16V x] ++ cap) σ (.b (p x)) σ) :
  FSpec Tryz.prog 109 [v, .f (.func fp) first cap] σ (.i .i64 (match L.findIdx? p with | some i => (i : Int) | none => -1)) σ := by
 refine fn109.spec mixed noIt_ok ?_
 rw [ic109]
 refine ab_seq_k fun K1 h1 => ?_
 simp
 refine h1 _ _ _ ?_
 clear h1 K1
 refine ab_seq_k fun K2 h2 => ?_
 refine ab_seq_k fun K3 h3 => ?_
 simp
 refine hv.len ?_
 simp
 refine h3 _ _ _ ?_
 clear h3 K3
 refine ab_block_k fun K4 h4 => ?_
 refine ab_loop_k (fun m env σ' => ∃ i : Nat, i + m = L.length ∧ (∀ (j x : Nat), j < i → L[j]? = some x → p x = false) ∧ env = [(0, v), (1, .f (.func fp) first cap), (7, .i .i64 L.length), (8, .i .i64 i)] ∧ σ' = σ) L.length ⟨0, by omega, by simp, by simp, rfl⟩ ?_
 rintro m env σ' ⟨i, hi, hprev, rfl, rfl⟩ K5 h5
 rw [ic109_0]
 refine ab_seq_k fun K6 h6 => ?_
 simp
 refine h6 _ _ _ ?_
 clear h6 K6
 refine ab_seq_k fun K7 h7 => ?_
 refine ab_cond_of rfl (fun hc => ?_) (fun hc => ?_)
 ·have hlt : i < L.length := by simpa using hc
  have hget : L[i]? = some L[i] := List.getElem?_eq_getElem hlt
  have hmem := List.getElem_mem hlt
  have hu := us_get hget
  generalize hx : L[i] = x at *
  simp
  refine h7 _ _ _ ?_
  clear h7 K7
  refine ab_seq_k fun K8 h8 => ?_
  refine ab_block_k fun K9 h9 => ?_
  refine ab_seq_k fun K10 h10 => ?_
  simp
  refine h10 _ _ _ ?_
  clear h10 K10
  refine ab_seq_k fun K11 h11 => ?_
  simp
  refine hv.ixs hu fun a ha => ?_
  simp
  refine ha _ ?_
  simp
  refine callK_of (by simpa using hp x hmem) ?_
  simp
  refine h11 _ _ _ ?_
  refine ab_cond_of rfl (fun hpx => ?_) (fun hpx => ?_)
  ·refine ab_seq_k fun K12 h12 => ?_
   simp
   refine h12 _ _ _ ?_
   clear h12 K12
   have : L.findIdx? p = some i := by
    rw [List.findIdx?_eq_some_iff_getElem]
    exact ⟨hlt, by rw [hx]; exact hpx, fun j hj => by have := hprev j _ hj (List.getElem?_eq_getElem (by omega)); simpa using this⟩
   simp [this]
   exact fin_all (by simp [rs109])
  ·simp
   refine h9 _ _ _ (h8 _ _ _ ?_)
   simp [wrap64 (x := (i : Int) + 1) (by omega) (by omega)]
   refine h5 _ _ _ (again (m - 1) (by omega) ⟨i + 1, by omega, fun j y hj hy => ?_, by simp, rfl⟩)
   by_cases hji : j = i
   ·subst hji; rw [hget] at hy; cases hy; exact hpx
   ·exact hprev j y (by omega) hy
 ·have hlt : ¬ i < L.length := by simpa using hc
  simp
  refine h4 _ _ _ (h2 _ _ _ ?_)
  refine ab_seq_k fun K8 h8 => ?_
  simp
  refine h8 _ _ _ ?_
  clear h8 K8
  have : L.findIdx? p = none := by
   rw [List.findIdx?_eq_none_iff]
   intro x hx
   obtain ⟨j, hj⟩ := List.mem_iff_getElem?.1 hx
   have := (List.getElem?_eq_some_iff.1 hj).1
   exact hprev j x (by omega) hj
  simp [this]
  exact fin_all (by simp [rs109])
theorem contains110 {L : List Nat} {v : V} {fp : FuncId} {first cap : List V} {p : Nat → Bool} {σ : List O} (hv : SlP σ v (us L)) (hl : L.length ≤ 60000) (hp : ∀ x ∈ L, FSpec Tryz.prog fp (first ++ [u16V x] ++ cap) σ (.b (p x)) σ) :
  FSpec Tryz.prog 110 [v, .f (.func fp) first cap] σ (.b (L.any p)) σ := by
 refine fn110.spec mixed noIt_ok ?_
 rw [ic110]
 refine ab_seq_k fun K1 h1 => ?_
 simp
 refine h1 _ _ _ ?_
 clear h1 K1
 refine ab_seq_k fun K2 h2 => ?_
 simp
 refine callK_of (index109 hv hl hp) ?_
 simp
 refine h2 _ _ _ ?_
 clear h2 K2
 simp
 refine fin_all ?_
 simp [rs110]
 cases h : L.findIdx? p with
 | none =>
  rw [List.findIdx?_eq_none_iff] at h
  have : L.any p = false := by rw [List.any_eq_false]; intro x hx; simp [h x hx]
  simpa using this
 | some i =>
  rw [List.findIdx?_eq_some_iff_getElem] at h
  obtain ⟨h1, h2, -⟩ := h
  have : L.any p = true := by rw [List.any_eq_true]; exact ⟨_, List.getElem_mem h1, h2⟩
  simpa using this
theorem filter_none {L : List Nat} {p : Nat → Bool} (h : L.findIdx? p = none) : L.filter (fun x => !p x) = L := by
 rw [List.findIdx?_eq_none_iff] at h
 rw [List.filter_eq_self]
 intro x hx
 simp [h x hx]
theorem filter_pre {L : List Nat} {p : Nat → Bool} {i : Nat} (h : L.findIdx? p = some i) : i < L.length ∧ (L.take (i + 1)).filter (fun x => !p x) = L.take i := by
 rw [List.findIdx?_eq_some_iff_getElem] at h
 obtain ⟨h1, h2, h3⟩ := h
 refine ⟨h1, ?_⟩
 rw [List.take_add_one, List.getElem?_eq_getElem h1, List.filter_append]
 have : (L.take i).filter (fun x => !p x) = L.take i := by
  rw [List.filter_eq_self]
  intro x hx
  obtain ⟨j, hj⟩ := List.mem_iff_getElem?.1 hx
  have hji : j < i := by have := (List.getElem?_eq_some_iff.1 hj).1; rw [List.length_take] at this; omega
  have hx2 : L[j]? = some x := by rw [← hj, List.getElem?_take]; simp [hji]
  obtain ⟨h4, h5⟩ := List.getElem?_eq_some_iff.1 hx2
  rw [← h5]
  simpa using h3 j hji
 rw [this]
 simp [h2]
theorem delete80 {L : List Nat} {v : V} {k n : Nat} {fp : FuncId} {first cap : List V} {p : Nat → Bool} {σ : List O} (hv : Gr k 1 σ v n (us L)) (hne : L ≠ []) (hl : L.length ≤ 60000)
  (hp : ∀ x ∈ L, ∀ τ : List O, (∀ j, idOf v ≠ some j → τ[j]? = σ[j]?) → (∀ id ver, v = .s id ver 0 n 1 → ∃ cells, τ[id]? = some (.row ver cells) ∧ ((∀ y, L[0]? = some y → p y = false) → cells[0]? = (us L)[0]?)) → FSpec Tryz.prog fp (first ++ [u16V x] ++ cap) τ (.b (p x)) τ) :
  FSpecQ Tryz.prog 80 [v, .f (.func fp) first cap] σ (fun v' σ' => SlL σ' v' (us (L.filter fun x => !p x))) := by
 have hnl : n = L.length := by have := hv.1; simp at this; omega
 refine fn80.specQ mixed noIt_ok ?_
 rw [ic80]
 have hp0 : ∀ x ∈ L, FSpec Tryz.prog fp (first ++ [u16V x] ++ cap) σ (.b (p x)) σ := fun x hx => hp x hx σ (fun _ _ => rfl) fun id ver e => by
  rcases hv.cases with ⟨h1, h2, h3⟩ | ⟨id', ver', hn, hid, e2, hs, hlt⟩
  ·rw [h3] at e; cases e
  ·rw [e2] at e; cases e
   exact ⟨_, hs, fun _ => rfl⟩
 refine ab_seq_k fun K1 h1 => ?_
 simp
 refine h1 _ _ _ ?_
 clear h1 K1
 refine ab_seq_k fun K2 h2 => ?_
 simp
 refine callK_of (index109 hv.slp hl hp0) ?_
 simp
 refine h2 _ _ _ ?_
 clear h2 K2
 refine ab_seq_k fun K3 h3 => ?_
 refine ab_seq_k fun K4 h4 => ?_
 simp
 refine h4 _ _ _ ?_
 clear h4 K4
 cases hfi : L.findIdx? p with
 | none =>
  refine ab_cond_of rfl (fun _ => ?_) (fun h => by cases h)
  refine ab_seq_k fun K5 h5 => ?_
  simp
  refine h5 _ _ _ ?_
  clear h5 K5
  simp
  refine fin_Q ?_
  simp [rs80]
  rw [filter_none hfi]
  have hn0 : n ≠ 0 := fun h => hne (List.length_eq_zero_iff.1 (by omega))
  rcases hv.cases with ⟨h1, h2, h3⟩ | ⟨id, ver, -, hid, rfl, hs, hlt⟩
  ·exact absurd h1 hn0
  ·exact ⟨id, ver, [], by rw [us_len, hnl], by rw [List.append_nil]; exact hs⟩
 | some i =>
  obtain ⟨hil, hpre⟩ := filter_pre hfi
  have hni : ¬ (i : Int) = -1 := by omega
  refine ab_cond_of rfl (fun h => by simp [hni] at h) (fun _ => ?_)
  simp
  refine h3 _ _ _ ?_
  clear h3 K3
  rcases hv.cases with ⟨h1, h2, h3⟩ | ⟨id, ver, hn0, hid, rfl, hs, hlt⟩
  ·omega
  have hfst : ∀ y, L[0]? = some y → p y = false → 0 < i := by
   intro y hy hpy
   rw [List.findIdx?_eq_some_iff_getElem] at hfi
   obtain ⟨f1, f2, -⟩ := hfi
   false_or_by_contra
   have hi0 : i = 0 := by omega
   subst hi0
   rw [List.getElem?_eq_getElem f1] at hy
   cases hy
   rw [f2] at hpy; cases hpy
  refine ab_seq_k fun K5 h5 => ?_
  refine ab_seq_k fun K6 h6 => ?_
  simp [wrap64 (x := (i : Int) + 1) (by omega) (by omega)]
  refine h6 _ _ _ ?_
  clear h6 K6
  refine ab_block_k fun K7 h7 => ?_
  refine ab_loop_k (fun m env σ' => ∃ (q j : Nat) (cells : List V), j + m = n ∧ q < j ∧ i ≤ q ∧ cells.length = n ∧ ((L.take j).filter fun x => !p x).length = q ∧ cells.take q = us ((L.take j).filter fun x => !p x) ∧ cells.drop j = us (L.drop j) ∧ (0 < i → cells[0]? = (us L)[0]?) ∧ env = [(0, .s id ver 0 n 1), (1, .f (.func fp) first cap), (5, .i .i64 q), (6, .i .i64 j)] ∧ σ' = σ.set id (.row ver cells)) (n - (i + 1)) ⟨i, i + 1, us L, by omega, by omega, Nat.le_refl _, by simp [hnl], by rw [hpre, List.length_take]; omega, by rw [hpre]; simp [us, List.map_take], by simp [us, List.map_drop], fun _ => rfl, by simp, set_same hs⟩ ?_
  rintro m env σ' ⟨q, j, cells, hm, hqj, hiq, hcl, hfl, htk, hdr, hc0, rfl, rfl⟩ K8 h8
  have hrow : (σ.set id (.row ver cells))[id]? = some (.row ver cells) := List.getElem?_set_self hlt
  have hoth : ∀ j, idOf (V.s id ver 0 n 1) ≠ some j → (σ.set id (.row ver cells))[j]? = σ[j]? := fun j hj => List.getElem?_set_ne (fun e => hj (by rw [← e]; rfl))
  obtain ⟨hrow1, hrow'⟩ := List.getElem?_eq_some_iff.1 hrow
  rw [ic80_0]
  refine ab_seq_k fun K9 h9 => ?_
  refine ab_seq_k fun K10 h10 => ?_
  simp [hrow, hrow', hlt]
  refine h10 _ _ _ ?_
  clear h10 K10
  refine ab_cond_of rfl (fun hc => ?_) (fun hc => ?_)
  ·have hjn : j < n := by simpa using hc
   have hjL : j < L.length := by omega
   have hx : L[j]? = some L[j] := List.getElem?_eq_getElem hjL
   have hxm := List.getElem_mem hjL
   have hcj : cells[j]? = some (u16V L[j]) := by
    have h1 := congrArg (·[0]?) hdr
    simp only [List.getElem?_drop, Nat.add_zero] at h1
    rw [h1]
    exact us_get (by rw [List.getElem?_drop, Nat.add_zero]; exact hx)
   have htk1 : (L.take (j + 1)).filter (fun x => !p x) = (L.take j).filter (fun x => !p x) ++ (if p L[j] = true then [] else [L[j]]) := by
    rw [List.take_add_one, hx, List.filter_append]
    cases hpj : p L[j] <;> simp [hpj]
   have hdr1 : ∀ c : List V, c.drop j = us (L.drop j) → c.drop (j + 1) = us (L.drop (j + 1)) := fun c hc => by
    have := congrArg (List.drop 1) hc
    rw [List.drop_drop] at this
    simpa [us, List.map_drop, List.drop_drop] using this
   have hcall := hp L[j] hxm _ hoth fun id' ver' e => by cases e; exact ⟨cells, hrow, fun h => hc0 (by
    cases hL0 : L[0]? with
    | none => rw [List.getElem?_eq_none_iff] at hL0; omega
    | some y => exact hfst y hL0 (h y hL0))⟩
   generalize L[j] = x at *
   obtain ⟨hcj1, hcj'⟩ := List.getElem?_eq_some_iff.1 hcj
   simp
   refine h9 _ _ _ ?_
   clear h9 K9
   refine ab_seq_k fun K11 h11 => ?_
   refine ab_block_k fun K12 h12 => ?_
   refine ab_seq_k fun K13 h13 => ?_
   simp [hrow, hrow', hlt, hjn, hcj, hcj']
   refine h13 _ _ _ ?_
   clear h13 K13
   refine ab_seq_k fun K14 h14 => ?_
   simp
   refine callK_of (by simpa using hcall) ?_
   simp
   refine h14 _ _ _ ?_
   clear h14 K14
   cases hpx : p x with
   | false =>
    rw [hpx, if_neg (by simp)] at htk1
    refine ab_cond_of rfl (fun _ => ?_) (fun h => by cases h)
    have hqn : q < n := by omega
    have hone : cellsOf (u16V x) = some [u16V x] := rfl
    refine ab_seq_k fun K15 h15 => ?_
    simp [hrow, hrow', hlt, hqn, hone]
    refine ⟨by omega, h15 _ _ _ ?_⟩
    simp [wrap64 (x := (q : Int) + 1) (by omega) (by omega)]
    refine h12 _ _ _ (h11 _ _ _ ?_)
    simp [wrap64 (x := (j : Int) + 1) (by omega) (by omega)]
    refine h8 _ _ _ (again (m - 1) (by omega) ⟨q + 1, j + 1, cells.set q (u16V x), by omega, by omega, by omega, by simp [hcl], by rw [htk1]; simp [hfl], ?_, ?_, ?_, by simp, rfl⟩)
    ·rw [htk1, us_append, ← htk, List.take_add_one, List.getElem?_set_self (by omega)]
     congr 1
     apply List.ext_getElem?
     intro t
     rw [List.getElem?_take, List.getElem?_take]
     split
     ·rw [List.getElem?_set_ne (by omega)]
     ·rfl
    ·rw [List.drop_set_of_lt (by omega)]
     exact hdr1 cells hdr
    ·intro hi0
     rw [List.getElem?_set_ne (by omega)]
     exact hc0 hi0
   | true =>
    rw [hpx, if_pos rfl, List.append_nil] at htk1
    refine ab_cond_of rfl (fun h => by cases h) (fun _ => ?_)
    simp
    refine h12 _ _ _ (h11 _ _ _ ?_)
    simp [wrap64 (x := (j : Int) + 1) (by omega) (by omega)]
    exact h8 _ _ _ (again (m - 1) (by omega) ⟨q, j + 1, cells, by omega, by omega, hiq, hcl, by rw [htk1]; exact hfl, by rw [htk1]; exact htk, hdr1 cells hdr, hc0, by simp, rfl⟩)
  ·have hjn : j = n := by simp at hc; omega
   have hall : (L.take j).filter (fun x => !p x) = L.filter fun x => !p x := by rw [List.take_of_length_le (by omega)]
   rw [hall] at hfl htk
   simp
   refine h7 _ _ _ (h5 _ _ _ ?_)
   clear h5 h7 h8 h9
   refine ab_seq_k fun K20 h20 => ?_
   have hqn : q ≤ n := by omega
   simp [hrow, hrow', hlt, hqn]
   refine ⟨by omega, h20 _ _ _ ?_⟩
   clear h20 K20
   generalize rep (n - q) [V.i IntKind.u16 0] ++ List.drop (q + (rep (n - q) [V.i IntKind.u16 0]).length) cells = rest
   rw [htk]
   have hrz : (σ.set id (.row ver (us (L.filter fun x => !p x) ++ rest)))[id]? = some (.row ver (us (L.filter fun x => !p x) ++ rest)) := List.getElem?_set_self hlt
   generalize σ.set id (.row ver (us (L.filter fun x => !p x) ++ rest)) = τ at *
   obtain ⟨hrz1, hrz'⟩ := List.getElem?_eq_some_iff.1 hrz
   refine ab_seq_k fun K21 h21 => ?_
   simp [hrz, hrz', hqn]
   refine h21 _ _ _ ?_
   simp
   refine fin_Q ?_
   simp [rs80]
   refine ⟨id, ver, rest, ?_, hrz⟩
   rw [us_len, hfl]
end Go.Ab
end
section
namespace Go.Ab
open Go Go.Proofs
theorem sub_le {t s : Nat} (h : less t s = 0) : t ≤ s := by
 have : t &&& s = t := Nat.eq_of_testBit_eq fun j => by
  rw [Nat.testBit_and]
  cases hj : t.testBit j with
  | false => rfl
  | true => rw [less_zero.1 h j hj]; rfl
 rw [← this]
 exact Nat.and_le_right
theorem sub_trans {r t s : Nat} (h1 : less r t = 0) (h2 : less t s = 0) : less r s = 0 := less_zero.2 fun j hj => less_zero.1 h2 j (less_zero.1 h1 j hj)
def minLock (J : List Lg) (s : Nat) : Bool := lockB J s && !(List.range s).any fun t => lockB J t && decide (less t s = 0)
def locksTo (J : List Lg) (i : Nat) : List Nat := (List.range i).filter (minLock J)
theorem locksTo_succ {J : List Lg} {i : Nat} : locksTo J (i + 1) = if minLock J i then locksTo J i ++ [i] else locksTo J i := by
 unfold locksTo
 rw [List.range_succ, List.filter_append]
 cases h : minLock J i <;> simp [h]
theorem locksTo_len {J : List Lg} {i : Nat} : (locksTo J i).length ≤ i := by
 have := List.length_filter_le (minLock J) (List.range i)
 rw [List.length_range] at this
 exact this
theorem minLock_iff {J : List Lg} {s : Nat} : minLock J s = true ↔ lockB J s = true ∧ ∀ t, lockB J t = true → less t s = 0 → t = s := by
 unfold minLock
 rw [Bool.and_eq_true, Bool.not_eq_true', List.any_eq_false]
 refine and_congr_right fun _ => ?_
 constructor
 ·intro h t h1 h2
  have hle := sub_le h2
  by_cases he : t = s
  ·exact he
  ·have := h t (List.mem_range.2 (by omega))
   rw [h1] at this
   simp [h2] at this
 ·intro h t ht
  rw [List.mem_range] at ht
  intro h3
  rw [Bool.and_eq_true, decide_eq_true_eq] at h3
  have := h t h3.1 h3.2
  omega
theorem min_under {J : List Lg} {t : Nat} (h : lockB J t = true) : ∃ u, minLock J u = true ∧ less u t = 0 := by
 obtain ⟨u, ⟨h1, h2⟩, h3⟩ := least_ex (p := fun u => lockB J u = true ∧ less u t = 0) (m := id) t ⟨t, ⟨h, less_zero.2 fun _ hj => hj⟩, Nat.le_refl _⟩
 refine ⟨u, minLock_iff.2 ⟨h1, fun r hr hru => ?_⟩, h2⟩
 have h4 := sub_le hru
 have h5 := h3 r ⟨hr, sub_trans hru h2⟩
 simp at h5
 omega
theorem any_min {J : List Lg} {i : Nat} (hl : lockB J i = true) : (locksTo J i).any (fun x => decide (less x i = 0)) = !minLock J i := by
 rw [Bool.eq_iff_iff, List.any_eq_true, Bool.not_eq_true']
 constructor
 ·rintro ⟨x, hx, h⟩
  rw [decide_eq_true_eq] at h
  obtain ⟨hx1, hx2⟩ := List.mem_filter.1 hx
  rw [List.mem_range] at hx1
  cases hm : minLock J i with
  | false => rfl
  | true =>
   have := (minLock_iff.1 hm).2 x (minLock_iff.1 hx2).1 h
   omega
 ·intro hm
  unfold minLock at hm
  rw [hl, Bool.true_and, Bool.not_eq_false', List.any_eq_true] at hm
  obtain ⟨t, ht, h⟩ := hm
  rw [List.mem_range] at ht
  rw [Bool.and_eq_true, decide_eq_true_eq] at h
  obtain ⟨u, h1, h2⟩ := min_under h.1
  have := sub_le h2
  exact ⟨u, List.mem_filter.2 ⟨List.mem_range.2 (by omega), h1⟩, decide_eq_true (sub_trans h2 h.2)⟩
theorem locks_anti {J : List Lg} {i x y : Nat} (hx : x ∈ locksTo J i) (hy : y ∈ locksTo J i) (h : less y x = 0) : y = x :=
 (minLock_iff.1 (List.mem_filter.1 hx).2).2 y (minLock_iff.1 (List.mem_filter.1 hy).2).1 h
theorem inside112 {a b : Nat} {σ : List O} (ha : a < 65536) (hb : b < 65536) : FSpec Tryz.prog 112 [u16V a, u16V b] σ (.b (decide (less a b = 0))) σ := by
 refine FSpec.frame (σ := σ) ?_ rfl rfl
 refine fn112.spec0 mixed noIt_ok ?_
 rw [ic112]
 have e4 := andNot_nat (a := a) (b := b) ha hb
 refine ab_seq_k fun K1 h1 => ?_
 simp
 refine h1 _ _ _ ?_
 clear h1 K1
 refine ab_seq_k fun K2 h2 => ?_
 simp [u16V]
 rw [e4]
 refine h2 _ _ _ ?_
 simp
 refine fin_of 1 ?_
 simp [rs112]
theorem part111 {c a b : Nat} {τ : List O} (ha : a < 65536) (hb : b < 65536) (h1 : τ[c]? = some (.row 0 [u16V b])) : FSpec Tryz.prog 111 [u16V a, .p c 0 0] τ (.b (decide (less a b = 0))) τ := by
 refine fn111.spec mixed noIt_ok ?_
 rw [ic111]
 obtain ⟨g1, g1'⟩ := List.getElem?_eq_some_iff.1 h1
 refine ab_seq_k fun K1 h1 => ?_
 simp
 refine h1 _ _ _ ?_
 clear h1 K1
 refine ab_seq_k fun K2 h2' => ?_
 simp [h1, g1']
 refine callK_of (inside112 ha hb) ?_
 simp
 refine h2' _ _ _ ?_
 simp
 refine fin_all ?_
 simp [rs111]
theorem tight113 {L : List Nat} {v : V} {σ : List O} (hv : SlP σ v (us L)) (hl : L.length ≤ 60000) (hlt : ∀ s ∈ L, s < 65536) (hanti : ∀ (i k x y : Nat), L[i]? = some x → L[k]? = some y → less y x = 0 → k = i) :
  FSpecQ Tryz.prog 113 [v, .f (.func 112) [] []] σ (fun v' σ' => Gr σ.length 1 σ' v' L.length (us L)) := by
 refine fn113.specQ mixed noIt_ok ?_
 rw [ic113]
 refine ab_seq_k fun K1 h1 => ?_
 simp
 refine h1 _ _ _ ?_
 clear h1 K1
 refine ab_seq_k fun K2 h2 => ?_
 simp
 refine h2 _ _ _ ?_
 clear h2 K2
 refine ab_seq_k fun K3 h3 => ?_
 simp
 refine h3 _ _ _ ?_
 clear h3 K3
 refine ab_seq_k fun K4 h4 => ?_
 refine ab_seq_k fun K5 h5 => ?_
 simp
 refine hv.len ?_
 simp
 refine h5 _ _ _ ?_
 clear h5 K5
 refine ab_block_k fun K6 h6 => ?_
 refine ab_loop_k (fun m env σ' => ∃ (i : Nat) (w : V), i + m = L.length ∧ env = [(0, v), (1, .f (.func 112) [] []), (5, w), (10, v), (11, .i .i64 L.length), (12, .i .i64 i)] ∧ SlP σ' v (us L) ∧ Gr σ.length 1 σ' w i (us (L.take i)) ∧ σ.length ≤ σ'.length) L.length ⟨0, .ss [] 0 true, by omega, by simp, hv, by simpa [us] using Gr.nil, Nat.le_refl _⟩ ?_
 generalize hn0 : σ.length = n0 at *
 have hvid : ∀ id, idOf v = some id → id < n0 := by
  intro id hid
  rcases hv with ⟨f, rfl⟩ | ⟨id', ver, rest, rfl, hs⟩
  ·cases hid
  ·cases hid
   rw [← hn0]
   exact (List.getElem?_eq_some_iff.1 hs).1
 clear hv
 rintro m env σ' ⟨i, w, hi, rfl, hv, hw, hlen⟩ K7 h7
 rw [ic113_1]
 refine ab_seq_k fun K8 h8 => ?_
 simp
 refine h8 _ _ _ ?_
 clear h8 K8
 refine ab_seq_k fun K9 h9 => ?_
 refine ab_cond_of rfl (fun hc => ?_) (fun hc => ?_)
 ·have hil : i < L.length := by simpa using hc
  have hx : L[i]? = some L[i] := List.getElem?_eq_getElem hil
  have hxl := hlt _ (List.getElem_mem hil)
  have htk : us (L.take (i + 1)) = us (L.take i) ++ [u16V L[i]] := by rw [List.take_add_one, hx, us_append]; rfl
  generalize L[i] = x at *
  have hu := us_get hx
  simp
  refine h9 _ _ _ ?_
  clear h9 K9
  refine ab_seq_k fun K10 h10 => ?_
  refine ab_block_k fun K11 h11 => ?_
  refine ab_seq_k fun K12 h12 => ?_
  simp
  refine hv.ixs hu fun a ha => ?_
  simp
  refine ha _ ?_
  simp
  refine h12 _ _ _ ?_
  clear h12 K12
  refine ab_seq_k fun K13 h13 => ?_
  refine ab_seq_k fun K14 h14 => ?_
  simp
  refine hv.len ?_
  simp
  refine h14 _ _ _ ?_
  clear h14 K14
  refine ab_block_k fun K15 h15 => ?_
  refine ab_loop_k (fun m2 env τ => ∃ k : Nat, k + m2 = L.length ∧ env = [(0, v), (1, .f (.func 112) [] []), (5, w), (6, .i .i64 i), (7, u16V x), (10, v), (11, .i .i64 L.length), (12, .i .i64 i), (17, v), (18, .i .i64 L.length), (19, .i .i64 k)] ∧ τ = σ') L.length ⟨0, by omega, by simp, rfl⟩ ?_
  rintro m2 env τ ⟨k, hk, rfl, rfl⟩ K16 h16
  rw [ic113_0]
  refine ab_seq_k fun K17 h17 => ?_
  simp
  refine h17 _ _ _ ?_
  clear h17 K17
  refine ab_seq_k fun K18 h18 => ?_
  refine ab_cond_of rfl (fun hc2 => ?_) (fun hc2 => ?_)
  ·have hkl : k < L.length := by simpa using hc2
   have hy : L[k]? = some L[k] := List.getElem?_eq_getElem hkl
   have hyl := hlt _ (List.getElem_mem hkl)
   have han := hanti i k x L[k] hx hy
   generalize L[k] = y at *
   have huy := us_get hy
   simp
   refine h18 _ _ _ ?_
   clear h18 K18
   refine ab_seq_k fun K19 h19 => ?_
   refine ab_block_k fun K20 h20 => ?_
   refine ab_seq_k fun K21 h21 => ?_
   simp
   refine hv.ixs huy fun a ha => ?_
   simp
   refine ha _ ?_
   simp
   refine h21 _ _ _ ?_
   clear h21 K21
   refine ab_seq_k fun K22 h22 => ?_
   have hK22 : ∀ env, get env 0 = v → get env 1 = .f (.func 112) [] [] → get env 5 = w → get env 6 = .i .i64 i → get env 7 = u16V x → get env 10 = v → get env 11 = .i .i64 L.length → get env 12 = .i .i64 i → get env 17 = v → get env 18 = .i .i64 L.length → get env 19 = .i .i64 k → get env 32 = .b false → K22 (some 0) env τ := by
    intro env w0 w1 w5 w6 w7 w10 w11 w12 w17 w18 w19 w32
    refine h22 _ _ _ ?_
    refine ab_cond_of w32 (fun h => by cases h) (fun _ => ?_)
    simp
    refine h20 _ _ _ (h19 _ _ _ ?_)
    simp [w0, w1, w5, w6, w7, w10, w11, w12, w17, w18, w19, wrap64 (x := (k : Int) + 1) (by omega) (by omega)]
    exact h16 _ _ _ (again (m2 - 1) (by omega) ⟨k + 1, by omega, by simp, rfl⟩)
   clear h22
   by_cases hki : k = i
   ·subst hki
    simp
    exact hK22 _ rfl rfl rfl rfl rfl rfl rfl rfl rfl rfl rfl rfl
   ·have hne : ¬ (k : Int) = i := by omega
    have hl0 : ¬ less y x = 0 := fun h => hki (han h)
    simp [hne, hki]
    refine callK_of (inside112 hyl hxl) ?_
    simp [hl0]
    exact hK22 _ rfl rfl rfl rfl rfl rfl rfl rfl rfl rfl rfl rfl
  ·simp
   refine h15 _ _ _ (h13 _ _ _ ?_)
   clear h13 h15 h16 h18
   simp [u16V]
   refine appG hw (by omega) (by omega) (by omega) rfl ?_
   intro w' σ3 hw' hgr
   have hv3 : SlP σ3 v (us L) := by
    rcases hv with ⟨f, e⟩ | ⟨id, ver, rest, e, hs⟩
    ·exact .inl ⟨f, e⟩
    ·refine .inr ⟨id, ver, rest, e, ?_⟩
     have hid := hvid id (by rw [e]; rfl)
     rw [hgr.keep id (List.getElem?_eq_some_iff.1 hs).1 (fun h => by have := (hw.id_ge h).1; omega)]
     exact hs
   have hlen3 : n0 ≤ σ3.length := by
    rcases hw'.cases with ⟨h1, -, -⟩ | ⟨id, ver, -, hid, -, -, hlt'⟩
    ·omega
    ·omega
   simp
   refine h11 _ _ _ (h10 _ _ _ ?_)
   simp [wrap64 (x := (i : Int) + 1) (by omega) (by omega)]
   exact h7 _ _ _ (again (m - 1) (by omega) ⟨i + 1, w', by omega, by simp, hv3, by rw [htk]; exact hw', hlen3⟩)
 ·have hil : i = L.length := by simp at hc; omega
  subst hil
  rw [List.take_length] at hw
  simp
  refine h6 _ _ _ (h4 _ _ _ ?_)
  refine ab_seq_k fun K30 h30 => ?_
  simp
  refine h30 _ _ _ ?_
  clear h30 K30
  simp
  refine fin_Q ?_
  simp [rs113]
  exact hw
end Go.Ab
end
section
namespace Go.Ab
open Go Go.Proofs
theorem byB_small {J : List Lg} (hc : ∀ p ∈ J, isL J.length p.2.1 = true) {n j : Nat} (hn : n < J.length) (h : ((byB J).getD n 0).testBit j = true) : j < J.length := by
 have hp : J[n]? = some J[n] := List.getElem?_eq_getElem hn
 have hL := hc _ (List.getElem_mem hn)
 generalize J[n] = p at *
 have hB : (byB J).getD n 0 = setB p.2.1 := by
  unfold byB
  rw [List.getD_eq_getElem?_getD, List.getElem?_map, hp]; rfl
 rw [hB] at h
 exact bit_small (setB_N hL) h
theorem lockB_iff {J : List Lg} {t : Nat} (ht : t < 2 ^ 12) : lockB J t = true ↔ t ≠ 0 ∧ ∀ n, t.testBit n = true → frB J (byB J) n (cmpl t) = false := by
 unfold lockB freeAny
 rw [Bool.and_eq_true, decide_eq_true_eq, Bool.not_eq_true', List.any_eq_false]
 refine and_congr_right fun _ => ?_
 constructor
 ·intro h n hn
  have := h n (bl_mem.2 ⟨n, bit_small ht hn, rfl, hn⟩)
  simpa using this
 ·intro h x hx
  obtain ⟨j, hj, rfl, hb⟩ := bl_mem.1 hx
  simpa using h j hb
theorem left_gk {J : List Lg} {s j : Nat} (hj : j < J.length) : (left J s).testBit j = !(gk J (byB J) s J.length).testBit j := by
 have hb := wr_b (J := J) (B := byB J) (keys := s) (r := J.length) (n := j)
 have hw := wave_in (J := J) (B := byB J) (s := s) hj J.length
 rw [left_bit hj]
 cases hg : (gk J (byB J) s J.length).testBit j with
 | true => have := hw.2 hg; simp; omega
 | false =>
  have : ¬ (0 ≤ wr J (byB J) s J.length j ∧ wr J (byB J) s J.length j ≤ J.length) := fun h => by rw [hw.1 h] at hg; cases hg
  simp
  omega
end Go.Ab
end
section
namespace Go.Ab
open Go Go.Proofs
theorem left_full {J : List Lg} : left J (2 ^ J.length - 1) = 0 := by
 apply Nat.eq_of_testBit_eq
 intro j
 rw [Nat.zero_testBit]
 by_cases hj : j < J.length
 ·rw [left_bit hj]
  refine decide_eq_false ?_
  rw [wave_key hj (by rw [Nat.testBit_two_pow_sub_one]; simp [hj])]
  omega
 ·exact Nat.testBit_lt_two_pow (Nat.lt_of_lt_of_le left_N (Nat.pow_le_pow_right (by omega) (by omega)))
theorem pc_less {s n : Nat} (hs : s < 2 ^ 16) (h : s.testBit n = true) : pc (less s (2 ^ n)) < pc s := by
 have hn : n < 16 := by
  false_or_by_contra
  have := Nat.testBit_lt_two_pow (Nat.lt_of_lt_of_le hs (Nat.pow_le_pow_right (n := 2) (by omega) (by omega : 16 ≤ n)))
  rw [this] at h; cases h
 refine bl_lt (fun j hj => ?_) ⟨n, hn, ?_, h⟩
 ·rw [less_bit] at hj
  simp at hj
  exact hj.1
 ·rw [less_bit, Nat.testBit_two_pow_self]
  simp
theorem tight_iff {J : List Lg} {s : Nat} (hs : s < 2 ^ 12) : tightB J s = true ↔ left J s = 0 ∧ ∀ n, s.testBit n = true → left J (less s (2 ^ n)) ≠ 0 := by
 unfold tightB looseTo
 rw [List.take_of_length_le bl_len, Bool.and_eq_true, decide_eq_true_eq, Bool.not_eq_true', List.any_eq_false]
 refine and_congr_right fun _ => ?_
 constructor
 ·intro h n hn
  have hn12 : n < 12 := bit_small hs hn
  have := h n (bl_mem.2 ⟨n, hn12, rfl, hn⟩)
  simpa using this
 ·intro h x hx
  obtain ⟨j, hj, rfl, hb⟩ := bl_mem.1 hx
  simpa using h j hb
theorem keys_ne {J : List Lg} (hN : J.length ≤ 12) : keysTo J (2 ^ J.length) ≠ [] := by
 have hpw := pow12 hN
 obtain ⟨s, ⟨h1, h2⟩, h3⟩ := least_ex (p := fun s => s < 2 ^ J.length ∧ left J s = 0) (m := pc) _ ⟨2 ^ J.length - 1, ⟨by omega, left_full⟩, Nat.le_refl _⟩
 have : s ∈ keysTo J (2 ^ J.length) := by
  unfold keysTo
  rw [List.mem_filter, List.mem_range]
  refine ⟨h1, (tight_iff (by omega)).2 ⟨h2, fun n hn hl => ?_⟩⟩
  have := h3 (less s (2 ^ n)) ⟨less_lt h1, hl⟩
  have := pc_less (by omega) hn
  omega
 intro e
 rw [e] at this
 cases this
theorem keys_lt {J : List Lg} (hN : J.length ≤ 12) : ∀ s ∈ keysTo J (2 ^ J.length), s < 2 ^ 12 := fun s hs => by
 have hpw := pow12 hN
 have := (List.mem_filter.1 hs).1
 rw [List.mem_range] at this
 omega
def fewL (J : List Lg) : List Nat := (sortG setL (keysTo J (2 ^ J.length))).filter fun s => !decide (pc ((sortG setL (keysTo J (2 ^ J.length))).getD 0 0) < pc s)
theorem few107 {c id ver n x y : Nat} {cells : List V} {τ : List O} (hx : x < 65536) (hy : y < 65536) (h1 : τ[c]? = some (.row 0 [.s id ver 0 n 1])) (h2 : τ[id]? = some (.row ver cells)) (h3 : cells[0]? = some (u16V y)) (hn : n ≠ 0) : FSpec Tryz.prog 107 [u16V x, .p c 0 0] τ (.b (decide (pc y < pc x))) τ := by
 refine fn107.spec mixed noIt_ok ?_
 rw [ic107]
 obtain ⟨g1, g1'⟩ := List.getElem?_eq_some_iff.1 h1
 obtain ⟨g2, g2'⟩ := List.getElem?_eq_some_iff.1 h2
 obtain ⟨g3, g3'⟩ := List.getElem?_eq_some_iff.1 h3
 refine ab_seq_k fun K1 h1 => ?_
 simp
 refine h1 _ _ _ ?_
 clear h1 K1
 refine ab_seq_k fun K2 h2' => ?_
 simp [abDs_consU, drU, recheck_cons, recheck_nil, rcK, IS.dst]
 refine callK_of (many92 hx) ?_
 have hn' : 0 < n := by omega
 simp [abDs_consU, drU, recheck_cons, recheck_nil, rcK, IS.dst, h1, g1', h2, g2', h3, g3', hn']
 refine callK_of (many92 hy) ?_
 simp [abDs_consU, drU, recheck_cons, recheck_nil, rcK, IS.dst]
 refine h2' _ _ _ ?_
 simp
 refine fin_all ?_
 simp [rs107]
theorem few74 {J : List Lg} {f : Bool} {σ : List O} (hN : J.length ≤ 12) : FSpec Tryz.prog 74 [heapV J f] σ (.ss (us (fewL J)) (fewL J).length false) σ := by
 refine FSpec.frame (σ := σ) ?_ (by simp) (by simp)
 have hpw := pow12 hN
 have hkn := keys_ne hN
 have hkl := keysTo_len (J := J) (i := 2 ^ J.length)
 have hklt := keys_lt hN
 have h77 := fun σ => keys77 (J := J) (f := f) (σ := σ) hN
 unfold fewL
 generalize keysTo J (2 ^ J.length) = K at *
 have hSl : (sortG setL K).length = K.length := sortG_len (lt := setL)
 have hSp : (sortG setL K).Perm K := sortG_perm (lt := setL)
 have hSs : (sortG setL K).Pairwise (fun a b => setL b a = false) := sortG_sorted (lt := setL) (fun a b h => setL_asym h) (fun a b c h1 h2 => setL_ntr h1 h2)
 generalize hS : sortG setL K = S at *
 have hSn : S ≠ [] := fun e => hkn (List.length_eq_zero_iff.1 (by rw [← hSl, e]; rfl))
 have hSlt : ∀ s ∈ S, s < 2 ^ 12 := fun s hs => hklt s (hSp.mem_iff.1 hs)
 obtain ⟨y, S', hyS⟩ : ∃ y S', S = y :: S' := by
  cases S with
  | nil => exact absurd rfl hSn
  | cons y S' => exact ⟨y, S', rfl⟩
 have hy0 : S.getD 0 0 = y := by rw [hyS]; rfl
 have hS0 : S[0]? = some y := by rw [hyS]; rfl
 have hym : y ∈ S := List.mem_of_getElem? hS0
 clear hyS
 rw [hy0]
 clear hy0 S'
 generalize hFL : S.filter (fun s => !decide (pc y < pc s)) = FL
 refine FSpecQ.freeze (Q := fun v σ' => SlL σ' v (us FL)) ?_ (fun v σ' h => ⟨2, by rw [h.frz (by simp), us_len]⟩)
 refine qf74.specQ mixed noIt_ok ?_
 rw [q74]
 have hhp : (heapV J f).pure = true := by simp
 generalize heapV J f = H at *
 refine ab_seq_k fun K1 h1 => ?_
 simp
 refine h1 _ _ _ ?_
 clear h1 K1
 refine ab_seq_k fun K2 h2 => ?_
 simp
 refine callR_of (h77 _) ?_
 rintro v σ2 ⟨hv, -⟩
 simp [hv.one]
 refine h2 _ _ _ ?_
 clear h2 K2
 have hv2 := hv.app (g := [O.row 0 [v]])
 have hcell : (σ2 ++ [O.row 0 [v]])[σ2.length]? = some (.row 0 [v]) := by simp
 have hbid : idOf v ≠ some σ2.length := fun e => by have := (hv.id_ge e).2; omega
 generalize hc : σ2.length = c at *
 generalize σ2 ++ [O.row 0 [v]] = σ3 at *
 obtain ⟨hc1, hc'⟩ := List.getElem?_eq_some_iff.1 hcell
 have hDU : ∀ x ∈ us K, DU x := fun x hx => by
  obtain ⟨s, hs, rfl⟩ := List.mem_map.1 hx
  exact ⟨s, hklt s hs, rfl⟩
 have hso : (us S).Pairwise (fun x y => setL (unU y) (unU x) = false) := by
  unfold us
  rw [List.pairwise_map]
  refine hSs.imp fun {a b} h => ?_
  simpa [unU] using h
 obtain ⟨σ4, hsrt, hv4, -, hoth⟩ := srtU hv2 (by omega) hDU (hSp.map _) hso
 have hcell4 : σ4[c]? = some (.row 0 [v]) := by rw [hoth c hbid]; exact hcell
 obtain ⟨hd1, hd'⟩ := List.getElem?_eq_some_iff.1 hcell4
 refine ab_seq_k fun K2 h2 => ?_
 simp [hcell, hc']
 refine callK_of hsrt ?_
 simp
 refine h2 _ _ _ ?_
 clear h2 K2
 refine ab_seq_k fun K2 h2 => ?_
 simp [hcell4, hd']
 have hn0 : K.length ≠ 0 := fun h => hkn (List.length_eq_zero_iff.1 h)
 refine callR_of (delete80 (first := []) (cap := [.p c 0 0]) (p := fun s => decide (pc y < pc s)) hv4 hSn (by omega) ?_) ?_
 ·intro x hx τ t1 t2
  rcases hv4.cases with ⟨e1, -, -⟩ | ⟨id, ver, -, hid, e2, hs, hlt⟩
  ·exact absurd e1 hn0
  ·obtain ⟨cells, a1, a2⟩ := t2 id ver (by rw [e2])
   have a3 := a2 (fun y' hy' => by rw [hS0] at hy'; cases hy'; simp)
   rw [us_get hS0] at a3
   have hyl := hSlt y hym
   have hxl := hSlt x hx
   refine few107 (c := c) (id := id) (ver := ver) (n := K.length) (x := x) (y := y) (by omega) (by omega) ?_ a1 a3 hn0
   rw [t1 c hbid, hcell4, e2]
 ·rintro v' σ5 h5
  rw [hFL] at h5
  simp
  refine h2 _ _ _ ?_
  simp
  refine fin_Q ?_
  simp [rs74]
  exact h5
end Go.Ab
end
section
namespace Go.Ab
open Go Go.Proofs
def keysV (J : List Lg) : V := if checkJ J ≠ 0 then .tup [.ss [] 0 true, .i .i64 (checkJ J)] else .tup [.ss (lv (lexS (keysTo J (2 ^ J.length)))) (keysTo J (2 ^ J.length)).length ((keysTo J (2 ^ J.length)).length == 0), .i .i64 0]
theorem keysV_pure {J} : (keysV J).pure = true := by
 unfold keysV
 split
 ·rfl
 ·simp
theorem keys31 {J : List Lg} {f : Bool} {σ : List O} (hJ : J.length ≤ 1000000) (hl : ∀ x ∈ J, x.2.1.length ≤ 1000000) : FSpec Tryz.prog 31 [jamV J f] σ (keysV J) σ := by
 refine FSpec.frame (σ := σ) ?_ (by simp) keysV_pure
 have h62 := fun σ => open62 (f := f) (l := []) (fl := true) (σ := σ) hJ hl (by simp)
 refine fn31.spec0 mixed noIt_ok ?_
 rw [ic31]
 refine ab_seq_k fun K1 h1 => ?_
 simp
 refine h1 _ _ _ ?_
 clear h1 K1
 refine ab_seq_k fun K2 h2 => ?_
 simp
 refine callK_of (h62 _) ?_
 rcases open_nil (f := f) hl with ⟨hc, ho⟩ | ⟨hc, hJO, ho⟩
 ·have hv : keysV J = .tup [.ss [] 0 true, .i .i64 (checkJ J)] := by unfold keysV; rw [if_pos hc]
  rw [ho]
  simp
  refine h2 _ _ _ ?_
  clear h2 K2
  refine ab_seq_k fun K3 h3 => ?_
  refine ab_seq_k fun K5 h5 => ?_
  simp
  refine h5 _ _ _ ?_
  clear h5 K5
  refine ab_cond_of rfl (fun _ => ?_) (fun h => by simp at h; omega)
  refine ab_seq_k fun K6 h6 => ?_
  simp
  refine h6 _ _ _ ?_
  clear h6 K6
  simp
  refine fin_of 3 ?_
  simp [rs31, hv]
 ·have hN := hJO.2.1
  have hpw := pow12 hN
  have hk := fun σ => keys77F (J := J) (f := f) (σ := σ) hN
  have hkl := keysTo_len (J := J) (i := 2 ^ J.length)
  have hmem : ∀ s ∈ keysTo J (2 ^ J.length), s < 2 ^ 12 := fun s hs => by
   have := (List.mem_filter.1 hs).1
   rw [List.mem_range] at this
   omega
  have hv : keysV J = .tup [.ss (lv (lexS (keysTo J (2 ^ J.length)))) (keysTo J (2 ^ J.length)).length ((keysTo J (2 ^ J.length)).length == 0), .i .i64 0] := by unfold keysV; rw [if_neg (by simp [hc])]
  have hls := fun f σ => lists76 (L := keysTo J (2 ^ J.length)) (f := f) (σ := σ) hmem (by omega)
  generalize keysTo J (2 ^ J.length) = L at *
  rw [ho]
  simp
  refine h2 _ _ _ ?_
  clear h2 K2
  refine ab_seq_k fun K3 h3 => ?_
  refine ab_seq_k fun K5 h5 => ?_
  simp
  refine h5 _ _ _ ?_
  clear h5 K5
  refine ab_cond_of rfl (fun h => by simp at h) (fun _ => ?_)
  simp
  refine h3 _ _ _ ?_
  clear h3 K3
  refine ab_seq_k fun K7 h7 => ?_
  simp
  refine callK_of (hk _) ?_
  simp
  refine callK_of (hls _ _) ?_
  simp
  refine h7 _ _ _ ?_
  simp
  refine fin_of 3 ?_
  simp [rs31, hv]
end Go.Ab
end
section
namespace Go.Ab
open Go Go.Proofs
theorem pc12 {s : Nat} (h : s < 2 ^ 12) : pc s = (bl s 12).length := by
 unfold pc
 have := bl_sh (s := s) (k := 12) (j := 4) h
 rw [show 16 = 12 + 4 from rfl, this]
def stepF (out : List Nat) (x : Nat) : List Nat := match out with
 | [] => [x]
 | y :: r => if pc x = pc y then y :: r ++ [x] else if pc x < pc y then [x] else y :: r
def refF (l : List Nat) : List Nat := l.foldl stepF []
theorem refF_snoc {l : List Nat} {x : Nat} : refF (l ++ [x]) = stepF (refF l) x := by simp [refF]
def minQ (l : List Nat) (s : Nat) : Bool := l.all fun t => decide (pc s ≤ pc t)
theorem minQ_iff {l : List Nat} {s : Nat} : minQ l s = true ↔ ∀ t ∈ l, pc s ≤ pc t := by
 unfold minQ; rw [List.all_eq_true]; simp
theorem refF_spec (l : List Nat) : refF l = l.filter (minQ l) := by
 refine snoc_ind (P := fun l => refF l = l.filter (minQ l)) rfl ?_ l
 intro l x ih
 rw [refF_snoc, ih]
 have hmin : l ≠ [] → ∃ y ∈ l, minQ l y = true := fun hne => by
  cases l with
  | nil => exact absurd rfl hne
  | cons a r =>
   obtain ⟨s, h1, h2⟩ := least_ex (p := fun s => s ∈ a :: r) (m := pc) (pc a) ⟨a, List.mem_cons_self .., Nat.le_refl _⟩
   exact ⟨s, h1, minQ_iff.2 h2⟩
 cases hf : l.filter (minQ l) with
 | nil =>
  have hl : l = [] := by
   false_or_by_contra
   rename_i hne
   obtain ⟨y, h1, h2⟩ := hmin hne
   have : y ∈ l.filter (minQ l) := List.mem_filter.2 ⟨h1, h2⟩
   rw [hf] at this; cases this
  subst hl
  simp [stepF, minQ]
 | cons y r =>
  have hy : y ∈ l.filter (minQ l) := by rw [hf]; exact List.mem_cons_self ..
  obtain ⟨hy1, hy2⟩ := List.mem_filter.1 hy
  rw [minQ_iff] at hy2
  rw [List.filter_append]
  have hx : minQ (l ++ [x]) x = decide (pc x ≤ pc y) := by
   rw [Bool.eq_iff_iff, minQ_iff, decide_eq_true_eq]
   constructor
   ·intro h; exact h y (List.mem_append.2 (.inl hy1))
   ·intro h t ht
    rcases List.mem_append.1 ht with ht | ht
    ·have := hy2 t ht; omega
    ·rw [List.mem_singleton] at ht; subst ht; exact Nat.le_refl _
  have hold : ∀ s ∈ l, minQ (l ++ [x]) s = (minQ l s && decide (pc s ≤ pc x)) := fun s _ => by
   rw [Bool.eq_iff_iff, Bool.and_eq_true, minQ_iff, minQ_iff, decide_eq_true_eq]
   constructor
   ·intro h; exact ⟨fun t ht => h t (List.mem_append.2 (.inl ht)), h x (List.mem_append.2 (.inr (List.mem_singleton.2 rfl)))⟩
   ·rintro ⟨h1, h2⟩ t ht
    rcases List.mem_append.1 ht with ht | ht
    ·exact h1 t ht
    ·rw [List.mem_singleton] at ht; subst ht; exact h2
  have hey : ∀ s ∈ l, minQ l s = true → pc s = pc y := fun s hs h => by
   have h1 := minQ_iff.1 h y hy1
   have h2 := hy2 s hs
   omega
  simp only [stepF]
  by_cases c1 : pc x = pc y
  ·rw [if_pos c1]
   have : l.filter (minQ (l ++ [x])) = y :: r := by
    rw [← hf]
    refine List.filter_congr fun s hs => ?_
    rw [hold s hs]
    cases hm : minQ l s with
    | false => rfl
    | true => have := hey s hs hm; simp; omega
   rw [this]
   simp [hx, c1]
  ·rw [if_neg c1]
   by_cases c2 : pc x < pc y
   ·rw [if_pos c2]
    have : l.filter (minQ (l ++ [x])) = [] := by
     rw [List.filter_eq_nil_iff]
     intro s hs
     rw [hold s hs]
     have := hy2 s hs
     simp
     intro _
     omega
    rw [this]
    have : pc x ≤ pc y := by omega
    simp [hx, this]
   ·rw [if_neg c2]
    have : l.filter (minQ (l ++ [x])) = y :: r := by
     rw [← hf]
     refine List.filter_congr fun s hs => ?_
     rw [hold s hs]
     cases hm : minQ l s with
     | false => rfl
     | true => have := hey s hs hm; simp; omega
    rw [this]
    have : ¬ pc x ≤ pc y := by omega
    simp [hx, this]
theorem few_eq {J : List Lg} (hN : J.length ≤ 12) : fewL J = refF (lexS (keysTo J (2 ^ J.length))) := by
 have hkn := keys_ne hN
 have hklt := keys_lt hN
 rw [refF_spec]
 unfold fewL
 generalize keysTo J (2 ^ J.length) = K at *
 have hSp : (sortG setL K).Perm K := sortG_perm (lt := setL)
 have hSs : (sortG setL K).Pairwise (fun a b => setL b a = false) := sortG_sorted (lt := setL) (fun a b h => setL_asym h) (fun a b c h1 h2 => setL_ntr h1 h2)
 generalize sortG setL K = S at *
 have hLp := lexS_perm (l := K)
 have hLs := lexS_sorted (l := K)
 generalize lexS K = M at *
 obtain ⟨y, S', rfl⟩ : ∃ y S', S = y :: S' := by
  cases S with
  | nil => exact absurd hSp.symm.eq_nil hkn
  | cons y S' => exact ⟨y, S', rfl⟩
 have hy0 : (y :: S').getD 0 0 = y := rfl
 rw [hy0]
 have hyK : y ∈ K := hSp.mem_iff.1 (List.mem_cons_self ..)
 have hymin : ∀ t ∈ K, pc y ≤ pc t := fun t ht => by
  have := hSp.mem_iff.2 ht
  rcases List.mem_cons.1 this with rfl | h
  ·exact Nat.le_refl _
  ·rw [List.pairwise_cons] at hSs
   have := hSs.1 t h
   unfold setL at this
   simp only [Bool.or_eq_false_iff, decide_eq_false_iff_not] at this
   omega
 have hpq : ∀ s ∈ K, (!decide (pc y < pc s)) = minQ M s := fun s hs => by
  rw [Bool.eq_iff_iff, Bool.not_eq_true', decide_eq_false_iff_not, minQ_iff]
  constructor
  ·intro h t ht
   have := hymin t (hLp.mem_iff.1 ht)
   omega
  ·intro h
   have := h y (hLp.mem_iff.2 hyK)
   omega
 have hA : ((y :: S').filter fun s => !decide (pc y < pc s)).Perm (K.filter fun s => !decide (pc y < pc s)) := hSp.filter _
 have hB : (M.filter (minQ M)).Perm (K.filter (minQ M)) := hLp.filter _
 have hC : K.filter (fun s => !decide (pc y < pc s)) = K.filter (minQ M) := List.filter_congr hpq
 rw [hC] at hA
 have hAm : ∀ s ∈ (y :: S').filter (fun s => !decide (pc y < pc s)), s ∈ K ∧ pc s = pc y := fun s hs => by
  obtain ⟨h1, h2⟩ := List.mem_filter.1 hs
  have h3 := hSp.mem_iff.1 h1
  have := hymin s h3
  simp at h2
  exact ⟨h3, by omega⟩
 refine perm_sorted_eq (le := fun a b => lexN b a = false) (hA.trans hB.symm) ?_ ?_ ?_
 ·refine List.Pairwise.imp_of_mem ?_ (hSs.sublist List.filter_sublist)
  intro a b ha hb h
  have e1 := (hAm a ha).2
  have e2 := (hAm b hb).2
  unfold setL at h
  simp only [Bool.or_eq_false_iff, Bool.and_eq_false_iff, decide_eq_false_iff_not] at h
  exact h.2.resolve_left (by omega)
 ·exact hLs.sublist List.filter_sublist
 ·intro a ha b hb h1 h2
  exact bl_inj (hklt a (hAm a ha).1) (hklt b (hAm b hb).1) (lexL_tri h2 h1)
theorem few_ne {J : List Lg} (hN : J.length ≤ 12) : fewL J ≠ [] := by
 rw [few_eq hN, refF_spec]
 have hkn := keys_ne hN
 have hLp := lexS_perm (l := keysTo J (2 ^ J.length))
 generalize lexS (keysTo J (2 ^ J.length)) = M at *
 have hM : M ≠ [] := fun e => by rw [e] at hLp; exact hkn (hLp.symm.eq_nil)
 intro e
 cases M with
 | nil => exact hM rfl
 | cons a r =>
  obtain ⟨s, h1, h2⟩ := least_ex (p := fun s => s ∈ a :: r) (m := pc) (pc a) ⟨a, List.mem_cons_self .., Nat.le_refl _⟩
  have : s ∈ (a :: r).filter (minQ (a :: r)) := List.mem_filter.2 ⟨h1, minQ_iff.2 h2⟩
  rw [e] at this; cases this
theorem few_lt {J : List Lg} (hN : J.length ≤ 12) : ∀ s ∈ fewL J, s < 2 ^ 12 := fun s hs => by
 rw [few_eq hN, refF_spec] at hs
 exact keys_lt hN s (lexS_perm.mem_iff.1 (List.mem_filter.1 hs).1)
def few0 (J : List Lg) : Nat := (fewL J).getD 0 0
def fewV (J : List Lg) : V := if checkJ J ≠ 0 then .tup [.ss [] 0 true, .i .i64 (checkJ J)] else .tup [listV (few0 J), .i .i64 0]
theorem fewV_pure {J} : (fewV J).pure = true := by
 unfold fewV
 split
 ·rfl
 ·simp [listV]
theorem fewest29 {J : List Lg} {f : Bool} {σ : List O} (hJ : J.length ≤ 1000000) (hl : ∀ x ∈ J, x.2.1.length ≤ 1000000) : FSpec Tryz.prog 29 [jamV J f] σ (fewV J) σ := by
 refine FSpec.frame (σ := σ) ?_ (by simp) fewV_pure
 have h62 := fun σ => open62 (f := f) (l := []) (fl := true) (σ := σ) hJ hl (by simp)
 refine fn29.spec0 mixed noIt_ok ?_
 rw [ic29]
 refine ab_seq_k fun K1 h1 => ?_
 simp
 refine h1 _ _ _ ?_
 clear h1 K1
 refine ab_seq_k fun K2 h2 => ?_
 simp
 refine callK_of (h62 _) ?_
 rcases open_nil (f := f) hl with ⟨hc, ho⟩ | ⟨hc, hJO, ho⟩
 ·have hv : fewV J = .tup [.ss [] 0 true, .i .i64 (checkJ J)] := by unfold fewV; rw [if_pos hc]
  rw [ho]
  simp
  refine h2 _ _ _ ?_
  clear h2 K2
  refine ab_seq_k fun K3 h3 => ?_
  refine ab_seq_k fun K5 h5 => ?_
  simp
  refine h5 _ _ _ ?_
  clear h5 K5
  refine ab_cond_of rfl (fun _ => ?_) (fun h => by simp at h; omega)
  refine ab_seq_k fun K6 h6 => ?_
  simp
  refine h6 _ _ _ ?_
  clear h6 K6
  simp
  refine fin_of 3 ?_
  simp [rs29, hv]
 ·have hN := hJO.2.1
  have h74 := fun σ => few74 (J := J) (f := f) (σ := σ) hN
  have hv : fewV J = .tup [listV (few0 J), .i .i64 0] := by unfold fewV; rw [if_neg (by simp [hc])]
  have hne := few_ne hN
  have hlt := few_lt hN
  unfold few0 at hv
  generalize fewL J = L at *
  have hL0 : 0 < L.length := Nat.pos_of_ne_zero fun h => hne (List.length_eq_zero_iff.1 h)
  have hx : L[0]? = some (L.getD 0 0) := by rw [List.getD_eq_getElem?_getD, List.getElem?_eq_getElem hL0]; rfl
  have hxl := hlt _ (List.mem_of_getElem? hx)
  generalize L.getD 0 0 = x at *
  obtain ⟨hx1, hx'⟩ := List.getElem?_eq_some_iff.1 hx
  rw [ho]
  simp
  refine h2 _ _ _ ?_
  clear h2 K2
  refine ab_seq_k fun K3 h3 => ?_
  refine ab_seq_k fun K5 h5 => ?_
  simp
  refine h5 _ _ _ ?_
  clear h5 K5
  refine ab_cond_of rfl (fun h => by simp at h) (fun _ => ?_)
  simp
  refine h3 _ _ _ ?_
  clear h3 K3
  refine ab_seq_k fun K7 h7 => ?_
  simp
  refine callK_of (h74 _) ?_
  simp [hL0, hx, hx']
  refine callK_of (list68 (by omega)) ?_
  simp
  refine h7 _ _ _ ?_
  simp
  refine fin_of 3 ?_
  simp [rs29, hv, listV]
end Go.Ab
end
section
namespace Go.Ab
open Go Go.Proofs
theorem keys_mem {J : List Lg} {s : Nat} (hN : J.length ≤ 12) : s ∈ keysTo J (2 ^ J.length) ↔ s < 2 ^ J.length ∧ left J s = 0 ∧ ∀ n, s.testBit n = true → left J (less s (2 ^ n)) ≠ 0 := by
 have hpw := pow12 hN
 unfold keysTo
 rw [List.mem_filter, List.mem_range]
 exact and_congr_right fun h => tight_iff (by omega)
theorem keys_under {J : List Lg} {s : Nat} (hN : J.length ≤ 12) (hs : s < 2 ^ J.length) (h : left J s = 0) : ∃ u, u ∈ keysTo J (2 ^ J.length) ∧ less u s = 0 := by
 have hpw := pow12 hN
 obtain ⟨u, ⟨h1, h2, h3⟩, h4⟩ := least_ex (p := fun u => u < 2 ^ J.length ∧ left J u = 0 ∧ less u s = 0) (m := pc) _ ⟨s, ⟨hs, h, less_zero.2 fun _ hj => hj⟩, Nat.le_refl _⟩
 refine ⟨u, (keys_mem hN).2 ⟨h1, h2, fun n hn hl => ?_⟩, h3⟩
 have h5 := h4 (less u (2 ^ n)) ⟨less_lt h1, hl, less_zero.2 fun j hj => less_zero.1 h3 j (by rw [less_bit, Bool.and_eq_true] at hj; exact hj.1)⟩
 have := pc_less (by omega) hn
 omega
theorem pc_sub {u s : Nat} (h : less u s = 0) : pc u ≤ pc s := bl_sublen (less_zero.1 h)
theorem few0_spec {J : List Lg} (hN : J.length ≤ 12) : few0 J ∈ keysTo J (2 ^ J.length) ∧ ∀ t ∈ keysTo J (2 ^ J.length), pc (few0 J) ≤ pc t := by
 have hne := few_ne (J := J) hN
 have hm : few0 J ∈ fewL J := by
  unfold few0
  cases h : fewL J with
  | nil => exact absurd h hne
  | cons a l => exact List.mem_cons_self ..
 rw [few_eq hN, refF_spec] at hm
 obtain ⟨h1, h2⟩ := List.mem_filter.1 hm
 rw [minQ_iff] at h2
 exact ⟨lexS_perm.mem_iff.1 h1, fun t ht => h2 t (lexS_perm.mem_iff.2 ht)⟩
theorem few0_left {J : List Lg} (hN : J.length ≤ 12) : few0 J < 2 ^ J.length ∧ left J (few0 J) = 0 := by
 obtain ⟨h1, h2, -⟩ := (keys_mem hN).1 (few0_spec hN).1
 exact ⟨h1, h2⟩
theorem few0_le {J : List Lg} {s : Nat} (hN : J.length ≤ 12) (hs : s < 2 ^ J.length) (h : left J s = 0) : pc (few0 J) ≤ pc s := by
 obtain ⟨u, hu, hus⟩ := keys_under hN hs h
 exact Nat.le_trans ((few0_spec hN).2 u hu) (pc_sub hus)
end Go.Ab
end
section
namespace Go.Ab
open Go Go.Proofs
theorem nodup_leN {N : Nat} {l : List Nat} (hn : l.Nodup) (h : ∀ x ∈ l, x < N) : l.length ≤ N := by
 have : (l ++ (List.range N).filter (fun x => !decide (x ∈ l))).Perm (List.range N) := by
  rw [List.perm_ext_iff_of_nodup]
  ·intro x
   rw [List.mem_append, List.mem_filter, List.mem_range]
   constructor
   ·rintro (hx | hx)
    ·exact h x hx
    ·exact hx.1
   ·intro hx
    by_cases hl : x ∈ l
    ·exact .inl hl
    ·exact .inr ⟨hx, by simp [hl]⟩
  ·rw [List.nodup_append]
   refine ⟨hn, List.nodup_range.filter _, fun a ha b hb e => ?_⟩
   subst e
   have := (List.mem_filter.1 hb).2
   simp [ha] at this
  ·exact List.nodup_range
 have := this.length_eq
 simp at this
 omega
structure Nm (N : Nat) (p q : Nat → Nat) : Prop where
 to : ∀ i, i < N → p i < N ∧ q (p i) = i
 fro : ∀ i, i < N → q i < N ∧ p (q i) = i
section
variable {N : Nat} {p q : Nat → Nat}
theorem Nm.symm (h : Nm N p q) : Nm N q p := ⟨h.fro, h.to⟩
theorem Nm.inj (h : Nm N p q) {i j : Nat} (hi : i < N) (hj : j < N) (he : p i = p j) : i = j := by
 rw [← (h.to i hi).2, ← (h.to j hj).2, he]
def setN (p : Nat → Nat) (g : Nat) : Nat → Nat
 | 0 => 0
 | m + 1 => if g.testBit m then setN p g m ||| 2 ^ p m else setN p g m
theorem setN_bit {g y : Nat} : ∀ {m : Nat}, (setN p g m).testBit y = true ↔ ∃ i, i < m ∧ g.testBit i = true ∧ p i = y
 | 0 => by simp [setN]
 | m + 1 => by
  simp only [setN]
  have ih := setN_bit (g := g) (y := y) (m := m)
  by_cases hb : g.testBit m = true
  ·rw [if_pos hb, Nat.testBit_or, Bool.or_eq_true, ih, Nat.testBit_two_pow]
   constructor
   ·rintro (⟨i, h1, h2⟩ | h)
    ·exact ⟨i, by omega, h2⟩
    ·exact ⟨m, by omega, hb, of_decide_eq_true h⟩
   ·rintro ⟨i, h1, h2, h3⟩
    by_cases hi : i = m
    ·subst hi; exact .inr (decide_eq_true h3)
    ·exact .inl ⟨i, by omega, h2, h3⟩
  ·rw [if_neg hb, ih]
   constructor
   ·rintro ⟨i, h1, h2⟩; exact ⟨i, by omega, h2⟩
   ·rintro ⟨i, h1, h2, h3⟩
    by_cases hi : i = m
    ·subst hi; exact absurd h2 hb
    ·exact ⟨i, by omega, h2, h3⟩
theorem setN_at (h : Nm N p q) {g i : Nat} (hi : i < N) : (setN p g N).testBit (p i) = g.testBit i := by
 rw [Bool.eq_iff_iff, setN_bit]
 constructor
 ·rintro ⟨j, h1, h2, h3⟩
  rw [← h.inj h1 hi h3]; exact h2
 ·intro hb; exact ⟨i, hi, hb, rfl⟩
theorem setN_lt (h : Nm N p q) {g : Nat} : setN p g N < 2 ^ N := by
 refine Nat.lt_pow_two_of_testBit _ fun y hy => ?_
 by_cases hb : (setN p g N).testBit y = true
 ·obtain ⟨i, h1, -, rfl⟩ := setN_bit.1 hb
  have := (h.to i h1).1
  omega
 ·simpa using hb
theorem setN_ne (h : Nm N p q) {g : Nat} (hg : g < 2 ^ N) (h0 : g ≠ 0) : setN p g N ≠ 0 := by
 intro hz
 obtain ⟨i, hi⟩ := Nat.exists_testBit_of_ne_zero h0
 have hiN : i < N := by
  by_cases hn : i < N
  ·exact hn
  ·rw [Nat.testBit_lt_two_pow (Nat.lt_of_lt_of_le hg (Nat.pow_le_pow_right (by omega) (by omega)))] at hi
   cases hi
 have := setN_at h (g := g) hiN
 rw [hz, hi] at this
 simp at this
end
structure Names (N : Nat) (l : List Nat) : Prop where
 len : l.length = N
 nd : l.Nodup
 lt : ∀ x ∈ l, x < N
theorem Names.range {N : Nat} : Names N (List.range N) := ⟨by simp, List.nodup_range, fun x hx => List.mem_range.1 hx⟩
theorem Names.get {N : Nat} {l : List Nat} (h : Names N l) {i : Nat} (hi : i < N) : l[i]? = some (l.getD i 0) ∧ l.getD i 0 < N := by
 have hl : i < l.length := by rw [h.len]; exact hi
 have e : l[i]? = some (l.getD i 0) := by rw [List.getD_eq_getElem?_getD, List.getElem?_eq_getElem hl]; rfl
 exact ⟨e, h.lt _ (List.mem_of_getElem? e)⟩
theorem Names.inj {N : Nat} {l : List Nat} (h : Names N l) {i j : Nat} (hi : i < N) (hj : j < N) (he : l.getD i 0 = l.getD j 0) : i = j := by
 have hi' : i < l.length := by rw [h.len]; exact hi
 have hj' : j < l.length := by rw [h.len]; exact hj
 rw [List.getD_eq_getElem?_getD, List.getD_eq_getElem?_getD, List.getElem?_eq_getElem hi', List.getElem?_eq_getElem hj'] at he
 have he : l[i] = l[j] := he
 rcases Nat.lt_trichotomy i j with h1 | h1 | h1
 ·exact absurd he (List.pairwise_iff_getElem.1 h.nd i j hi' hj' h1)
 ·exact h1
 ·exact absurd he.symm (List.pairwise_iff_getElem.1 h.nd j i hj' hi' h1)
theorem Names.nm {N : Nat} {l : List Nat} (h : Names N l) : ∃ q, Nm N (fun i => l.getD i 0) q := by
 have hs : ∀ y, y < N → ∃ i, i < N ∧ l.getD i 0 = y := fun y hy => by
  have hm : y ∈ l := by
   by_cases hm : y ∈ l
   ·exact hm
   ·exfalso
    have := nodup_leN (N := N) (l := y :: l) (List.nodup_cons.2 ⟨hm, h.nd⟩) (fun x hx => by
     rcases List.mem_cons.1 hx with rfl | hx
     ·exact hy
     ·exact h.lt x hx)
    have h2 := h.len
    simp at this
    omega
  obtain ⟨i, hi⟩ := List.mem_iff_getElem?.1 hm
  have hl := (List.getElem?_eq_some_iff.1 hi).1
  refine ⟨i, by rw [← h.len]; exact hl, ?_⟩
  rw [List.getD_eq_getElem?_getD, hi]; rfl
 classical
 refine ⟨fun y => if hy : ∃ i, i < N ∧ l.getD i 0 = y then Classical.choose hy else 0, ⟨fun i hi => ⟨(h.get hi).2, ?_⟩, fun y hy => ?_⟩⟩
 ·have hex : ∃ j, j < N ∧ l.getD j 0 = l.getD i 0 := ⟨i, hi, rfl⟩
  rw [dif_pos hex]
  have := Classical.choose_spec hex
  exact h.inj this.1 hi this.2
 ·rw [dif_pos (hs y hy)]
  exact Classical.choose_spec (hs y hy)
theorem Names.swap {N : Nat} {l : List Nat} (h : Names N l) {c d : Nat} (hc : c < N) (hd : d < N) : Names N ((l.set c (l.getD d 0)).set d (l.getD c 0)) := by
 have hc' : c < l.length := by rw [h.len]; exact hc
 have hd' : d < l.length := by rw [h.len]; exact hd
 have e1 : l.getD d 0 = l[d] := by rw [List.getD_eq_getElem?_getD, List.getElem?_eq_getElem hd']; rfl
 have e2 : l.getD c 0 = l[c] := by rw [List.getD_eq_getElem?_getD, List.getElem?_eq_getElem hc']; rfl
 rw [e1, e2]
 have hp : ((l.set c l[d]).set d l[c]).Perm l := List.set_set_perm hc' hd'
 exact ⟨by simp [h.len], hp.nodup_iff.2 h.nd, fun x hx => h.lt x (hp.mem_iff.1 hx)⟩
structure Rn (J J' : List Lg) (p q : Nat → Nat) : Prop where
 len : J'.length = J.length
 nm : Nm J.length p q
 kind : ∀ i, i < J.length → kd J' (p i) = kd J i
 by_ : ∀ i j, i < J.length → j < J.length → ((byB J').getD (p i) 0).testBit (p j) = ((byB J).getD i 0).testBit j
 ok : ∀ x ∈ J, isL J.length x.2.1 = true
 ok' : ∀ x ∈ J', isL J'.length x.2.1 = true
section
variable {J J' : List Lg} {p q : Nat → Nat}
theorem Rn.symm (h : Rn J J' p q) : Rn J' J q p := by
 refine ⟨h.len.symm, by rw [h.len]; exact h.nm.symm, fun i hi => ?_, fun i j hi hj => ?_, h.ok', h.ok⟩
 ·rw [h.len] at hi
  have h1 := h.nm.fro i hi
  have := h.kind (q i) h1.1
  rw [h1.2] at this
  exact this.symm
 ·rw [h.len] at hi hj
  have h1 := h.nm.fro i hi
  have h2 := h.nm.fro j hj
  have := h.by_ (q i) (q j) h1.1 h2.1
  rw [h1.2, h2.2] at this
  exact this.symm
theorem Rn.fr (h : Rn J J' p q) {i g g' : Nat} (hi : i < J.length) (hg : ∀ j, j < J.length → g'.testBit (p j) = g.testBit j) : frB J' (byB J') (p i) g' = frB J (byB J) i g := by
 have hpi := (h.nm.to i hi).1
 have hb : ∀ j, ((byB J).getD i 0).testBit j = true → j < J.length := fun j => byB_small h.ok hi
 have hb' : ∀ j, ((byB J').getD (p i) 0).testBit j = true → j < J.length := fun j hj => by
  have := byB_small h.ok' (by rw [h.len]; exact hpi) hj
  rwa [h.len] at this
 unfold frB
 rw [h.kind i hi]
 by_cases hk : kd J i = 0
 ·rw [if_pos hk, if_pos hk, Bool.eq_iff_iff, decide_eq_true_eq, decide_eq_true_eq, less_zero, less_zero]
  constructor
  ·intro a j hj
   have hjN := hb j hj
   rw [← hg j hjN]
   exact a _ (by rw [h.by_ i j hi hjN]; exact hj)
  ·intro a j hj
   have hjN := hb' j hj
   have hq := h.nm.fro j hjN
   rw [← hq.2] at hj ⊢
   rw [hg _ hq.1]
   rw [h.by_ i _ hi hq.1] at hj
   exact a _ hj
 ·rw [if_neg hk, if_neg hk, Bool.eq_iff_iff, decide_eq_true_eq, decide_eq_true_eq, and_ne, and_ne]
  constructor
  ·rintro ⟨j, hj, a⟩
   have hjN := hb' j hj
   have hq := h.nm.fro j hjN
   rw [← hq.2] at hj a
   rw [hg _ hq.1] at a
   rw [h.by_ i _ hi hq.1] at hj
   exact ⟨_, hj, a⟩
  ·rintro ⟨j, hj, a⟩
   have hjN := hb j hj
   exact ⟨p j, by rw [h.by_ i j hi hjN]; exact hj, by rw [hg j hjN]; exact a⟩
theorem Rn.gk (h : Rn J J' p q) {s s' : Nat} (hs : ∀ j, j < J.length → s'.testBit (p j) = s.testBit j) : ∀ r i, i < J.length → (gk J' (byB J') s' r).testBit (p i) = (gk J (byB J) s r).testBit i := by
 intro r
 induction r with
 | zero => exact hs
 | succ r ih =>
  intro i hi
  rw [gk_step, gk_step, ih i hi, h.fr hi ih, h.len]
  simp [hi, (h.nm.to i hi).1]
theorem set_ext {N a b : Nat} (ha : a < 2 ^ N) (hb : b < 2 ^ N) (h : ∀ i, i < N → a.testBit i = b.testBit i) : a = b := by
 apply Nat.eq_of_testBit_eq
 intro i
 by_cases hi : i < N
 ·exact h i hi
 ·rw [Nat.testBit_lt_two_pow (Nat.lt_of_lt_of_le ha (Nat.pow_le_pow_right (by omega) (by omega))), Nat.testBit_lt_two_pow (Nat.lt_of_lt_of_le hb (Nat.pow_le_pow_right (by omega) (by omega)))]
theorem set_ext_nm {N a b : Nat} (h : Nm N p q) (ha : a < 2 ^ N) (hb : b < 2 ^ N) (he : ∀ i, i < N → a.testBit (p i) = b.testBit (p i)) : a = b :=
 set_ext ha hb fun i hi => by
  have := h.fro i hi
  rw [← this.2]
  exact he _ this.1
theorem setN_inv {N s : Nat} (h : Nm N p q) (hs : s < 2 ^ N) : setN q (setN p s N) N = s :=
 set_ext_nm h.symm (setN_lt h.symm) hs fun i hi => by
  rw [setN_at h.symm hi]
  have := h.fro i hi
  rw [← setN_at h this.1, this.2]
theorem Rn.left (h : Rn J J' p q) {s : Nat} : Go.Ab.left J' (setN p s J.length) = setN p (Go.Ab.left J s) J.length := by
 have hl : Go.Ab.left J' (setN p s J.length) < 2 ^ J.length := by
  have := left_N (J := J') (s := setN p s J.length)
  rwa [h.len] at this
 refine set_ext_nm h.nm hl (setN_lt h.nm) fun i hi => ?_
 have h1 := left_gk (J := J') (s := setN p s J.length) (j := p i) (by rw [h.len]; exact (h.nm.to i hi).1)
 rw [h1, setN_at h.nm hi, left_gk hi, h.len, h.gk (fun j hj => setN_at h.nm hj) J.length i hi]
theorem setN_zero {N : Nat} : setN p 0 N = 0 := by
 induction N with
 | zero => rfl
 | succ n ih => simp [setN, ih]
theorem Rn.left0 (h : Rn J J' p q) {s : Nat} : Go.Ab.left J' (setN p s J.length) = 0 ↔ Go.Ab.left J s = 0 := by
 rw [h.left]
 constructor
 ·intro e
  false_or_by_contra
  rename_i hn
  exact setN_ne h.nm left_N hn e
 ·intro e
  rw [e]
  exact setN_zero
theorem setN_less {N s n : Nat} (h : Nm N p q) (hn : n < N) : setN p (less s (2 ^ n)) N = less (setN p s N) (2 ^ p n) :=
 set_ext_nm h (setN_lt h) (less_lt (setN_lt h)) fun i hi => by
  rw [setN_at h hi, less_bit, less_bit, setN_at h hi, Nat.testBit_two_pow, Nat.testBit_two_pow]
  congr 2
  rw [decide_eq_decide]
  exact ⟨fun e => by rw [e], fun e => h.inj hn hi e⟩
theorem Rn.key (h : Rn J J' p q) (hN : J.length ≤ 12) {s : Nat} (hs : s ∈ keysTo J (2 ^ J.length)) : setN p s J.length ∈ keysTo J' (2 ^ J.length) := by
 obtain ⟨h1, h2, h3⟩ := (keys_mem hN).1 hs
 have hN' : J'.length ≤ 12 := by rw [h.len]; exact hN
 have := (keys_mem (J := J') (s := setN p s J.length) hN').2
 rw [h.len] at this
 refine this ⟨setN_lt h.nm, h.left0.2 h2, fun n hn => ?_⟩
 have hnN := bit_small (setN_lt h.nm) hn
 have hq := h.nm.fro n hnN
 rw [← hq.2, ← setN_less h.nm hq.1]
 rw [← hq.2, setN_at h.nm hq.1] at hn
 exact fun e => h3 _ hn (h.left0.1 e)
theorem Rn.lockB (h : Rn J J' p q) (hN : J.length ≤ 12) {s : Nat} (hs : s < 2 ^ J.length) (hl : Go.Ab.lockB J s = true) : Go.Ab.lockB J' (setN p s J.length) = true := by
 have hpw := pow12 hN
 have hlt := setN_lt h.nm (g := s)
 obtain ⟨h1, h2⟩ := (lockB_iff (by omega)).1 hl
 refine (lockB_iff (by omega)).2 ⟨setN_ne h.nm hs h1, fun n hn => ?_⟩
 have hnN := bit_small hlt hn
 have hq := h.nm.fro n hnN
 rw [← hq.2] at hn ⊢
 rw [setN_at h.nm hq.1] at hn
 rw [h.fr hq.1 (g := cmpl s) (fun j hj => ?_)]
 ·exact h2 _ hn
 ·have := (h.nm.to j hj).1
  rw [cmpl_bit (by omega), cmpl_bit (by omega), setN_at h.nm hj]
  have e1 : j < 16 := by omega
  have e2 : p j < 16 := by omega
  simp [e1, e2]
theorem setN_sub {N a b : Nat} (h : Nm N p q) (hs : less a b = 0) : less (setN p a N) (setN p b N) = 0 := less_zero.2 fun j hj => by
 have hjN := bit_small (setN_lt h) hj
 have hq := h.fro j hjN
 rw [← hq.2] at hj ⊢
 rw [setN_at h hq.1] at hj ⊢
 exact less_zero.1 hs _ hj
theorem Rn.lock (h : Rn J J' p q) (hN : J.length ≤ 12) {s : Nat} (hs : s ∈ locksTo J (2 ^ J.length)) : setN p s J.length ∈ locksTo J' (2 ^ J.length) := by
 obtain ⟨h1, h2⟩ := List.mem_filter.1 hs
 rw [List.mem_range] at h1
 obtain ⟨h3, h4⟩ := minLock_iff.1 h2
 refine List.mem_filter.2 ⟨List.mem_range.2 (setN_lt h.nm), minLock_iff.2 ⟨h.lockB hN h1 h3, fun t ht hsub => ?_⟩⟩
 have htl : t < 2 ^ J'.length := by rw [h.len]; exact Nat.lt_of_le_of_lt (sub_le hsub) (setN_lt h.nm)
 have hN' : J'.length ≤ 12 := by rw [h.len]; exact hN
 have h5 := h.symm.lockB hN' htl ht
 rw [h.len] at h5 htl
 have h6 := h4 _ h5 (by
  have := setN_sub h.nm.symm hsub
  rwa [setN_inv h.nm h1] at this)
 rw [← h6]
 exact (setN_inv h.nm.symm htl).symm
theorem map_perm {N : Nat} {L L' : List Nat} (h : Nm N p q) (hn : L.Nodup) (hn' : L'.Nodup) (hl : ∀ s ∈ L, s < 2 ^ N) (hl' : ∀ s ∈ L', s < 2 ^ N) (h1 : ∀ s ∈ L, setN p s N ∈ L') (h2 : ∀ s ∈ L', setN q s N ∈ L) : (L.map fun s => setN p s N).Perm L' := by
 rw [List.perm_ext_iff_of_nodup]
 ·intro a
  rw [List.mem_map]
  constructor
  ·rintro ⟨s, hs, rfl⟩; exact h1 s hs
  ·intro ha; exact ⟨_, h2 a ha, setN_inv h.symm (hl' a ha)⟩
 ·refine List.pairwise_map.2 (List.Pairwise.imp_of_mem (fun {a b} ha hb hab he => hab ?_) hn)
  rw [← setN_inv h (hl a ha), he, setN_inv h (hl b hb)]
 ·exact hn'
theorem Rn.keys (h : Rn J J' p q) (hN : J.length ≤ 12) : ((keysTo J (2 ^ J.length)).map fun s => setN p s J.length).Perm (keysTo J' (2 ^ J'.length)) := by
 have hN' : J'.length ≤ 12 := by rw [h.len]; exact hN
 have e := fun s (hs : s ∈ keysTo J' (2 ^ J'.length)) => h.symm.key hN' hs
 rw [h.len] at e ⊢
 exact map_perm h.nm (List.nodup_range.filter _) (List.nodup_range.filter _) (fun s hs => List.mem_range.1 (List.mem_filter.1 hs).1) (fun s hs => List.mem_range.1 (List.mem_filter.1 hs).1) (fun s hs => h.key hN hs) e
theorem Rn.locks (h : Rn J J' p q) (hN : J.length ≤ 12) : ((locksTo J (2 ^ J.length)).map fun s => setN p s J.length).Perm (locksTo J' (2 ^ J'.length)) := by
 have hN' : J'.length ≤ 12 := by rw [h.len]; exact hN
 have e := fun s (hs : s ∈ locksTo J' (2 ^ J'.length)) => h.symm.lock hN' hs
 rw [h.len] at e ⊢
 exact map_perm h.nm (List.nodup_range.filter _) (List.nodup_range.filter _) (fun s hs => List.mem_range.1 (List.mem_filter.1 hs).1) (fun s hs => List.mem_range.1 (List.mem_filter.1 hs).1) (fun s hs => h.lock hN hs) e
theorem bl_setN {N k s : Nat} (h : Nm N p q) (hs : s < 2 ^ N) (hk : N ≤ k) : (bl (setN p s N) k).Perm ((bl s k).map fun x => ((p x.toNat : Nat) : Int)) := by
 have hsd : ∀ {a : Nat}, (bl a k).Nodup := fun {a} => (bl_sorted (s := a) (k := k)).imp fun h => by omega
 rw [List.perm_ext_iff_of_nodup hsd]
 ·intro x
  rw [bl_mem, List.mem_map]
  constructor
  ·rintro ⟨j, hj, rfl, hb⟩
   have hjN := bit_small (setN_lt h) hb
   have hq := h.fro j hjN
   rw [← hq.2, setN_at h hq.1] at hb
   exact ⟨(q j : Nat), bl_mem.2 ⟨q j, by omega, rfl, hb⟩, by rw [Int.toNat_natCast, hq.2]⟩
  ·rintro ⟨y, hy, rfl⟩
   obtain ⟨i, hi, rfl, hb⟩ := bl_mem.1 hy
   have hiN := bit_small hs hb
   refine ⟨p i, by have := (h.to i hiN).1; omega, by rw [Int.toNat_natCast], ?_⟩
   rw [setN_at h hiN]
   exact hb
 ·refine List.pairwise_map.2 (List.Pairwise.imp_of_mem (fun {a b} ha hb hab he => hab ?_) hsd)
  obtain ⟨i, hi, rfl, hbi⟩ := bl_mem.1 ha
  obtain ⟨j, hj, rfl, hbj⟩ := bl_mem.1 hb
  rw [Int.toNat_natCast, Int.toNat_natCast] at he
  rw [h.inj (bit_small hs hbi) (bit_small hs hbj) (by omega)]
theorem pc_setN {N s : Nat} (h : Nm N p q) (hs : s < 2 ^ N) (hk : N ≤ 16) : pc (setN p s N) = pc s := by
 unfold pc
 rw [(bl_setN h hs hk).length_eq, List.length_map]
theorem Rn.few (h : Rn J J' p q) (hN : J.length ≤ 12) : pc (few0 J') = pc (few0 J) := by
 have hN' : J'.length ≤ 12 := by rw [h.len]; exact hN
 obtain ⟨a1, a2⟩ := few0_left (J := J) hN
 obtain ⟨b1, b2⟩ := few0_left (J := J') hN'
 have h1 := few0_le (J := J') (s := setN p (few0 J) J.length) hN' (by rw [h.len]; exact setN_lt h.nm) (h.left0.2 a2)
 have h2 := h.symm.left0.2 b2
 rw [h.len] at h2 b1
 have h3 := few0_le (J := J) (s := setN q (few0 J') J.length) hN (setN_lt h.nm.symm) h2
 rw [pc_setN h.nm a1 (by omega)] at h1
 rw [pc_setN h.nm.symm b1 (by omega)] at h3
 omega
end
end Go.Ab
end
section
namespace Go.Ab
open Go Go.Proofs
def lls (B : List (List Int × Bool)) : List V := B.map fun p => sl p.1 p.2
@[simp] theorem lls_len {B : List (List Int × Bool)} : (lls B).length = B.length := by simp [lls]
theorem lls_get {B : List (List Int × Bool)} {i : Nat} {p : List Int × Bool} (h : B[i]? = some p) : (lls B)[i]? = some (sl p.1 p.2) := by unfold lls; rw [List.getElem?_map, h]; rfl
@[simp] theorem lls_pure {B : List (List Int × Bool)} : pureL (lls B) = true := by
 rw [pureL_all]
 intro x hx
 obtain ⟨p, -, rfl⟩ := List.mem_map.1 hx
 simp
end Go.Ab
end
section
namespace Go.Ab
open Go Go.Proofs
theorem ints25 {a b : List Int} {fa fb : Bool} (ha : (a.length : Int) < 1000000000) : FSpec Tryz.prog 25 [sl a fa, sl b fb] [] (.b (decide (a = b))) [] := by
 refine fn25.spec0 mixed noIt_ok ?_
 rw [ic25]
 refine ab_seq_k fun K1 h1 => ?_
 simp
 refine h1 _ _ _ ?_
 clear h1 K1
 refine ab_seq_k fun K2 h2 => ?_
 refine ab_seq_k fun K3 h3 => ?_
 simp
 refine h3 _ _ _ ?_
 clear h3 K3
 refine ab_cond_of rfl (fun hc => ?_) (fun hc => ?_)
 ·have hne : a ≠ b := by rintro rfl; simp at hc
  refine ab_seq_k fun K4 h4 => ?_
  simp
  refine h4 _ _ _ ?_
  clear h4 K4
  simp
  exact fin_of 1 (by simp [rs25, hne])
 have hlen : a.length = b.length := by simp at hc; omega
 simp
 refine h2 _ _ _ ?_
 clear h2 K2
 refine ab_seq_k fun K5 h5 => ?_
 refine ab_seq_k fun K6 h6 => ?_
 simp
 refine h6 _ _ _ ?_
 clear h6 K6
 refine ab_block_k fun K7 h7 => ?_
 refine ab_loop_k (fun m env σ => ∃ i : Nat, i + m = a.length ∧ a.take i = b.take i ∧ env = [(0, sl a fa), (1, sl b fb), (5, .i .i64 i)]) a.length ⟨0, by omega, by simp, by simp⟩ ?_
 rintro m env σ ⟨i, hi, hpre, rfl⟩ K8 h8
 rw [ic25_0]
 refine ab_seq_k fun K9 h9 => ?_
 refine ab_seq_k fun K10 h10 => ?_
 simp
 refine h10 _ _ _ ?_
 clear h10 K10
 refine ab_cond_of rfl (fun hc2 => ?_) (fun hc2 => ?_)
 ·have hil : i < a.length := by simpa using hc2
  have hilb : i < b.length := by omega
  have hx : a[i]? = some a[i] := List.getElem?_eq_getElem hil
  have hy : b[i]? = some b[i] := List.getElem?_eq_getElem hilb
  have hta : a.take (i + 1) = a.take i ++ [a[i]] := by rw [List.take_add_one, hx]; rfl
  have htb : b.take (i + 1) = b.take i ++ [b[i]] := by rw [List.take_add_one, hy]; rfl
  simp
  refine h9 _ _ _ ?_
  clear h9 K9
  refine ab_seq_k fun K11 h11 => ?_
  refine ab_block_k fun K12 h12 => ?_
  refine ab_seq_k fun K13 h13 => ?_
  simp [hil, hilb]
  refine h13 _ _ _ ?_
  clear h13 K13
  refine ab_cond_of rfl (fun hc3 => ?_) (fun hc3 => ?_)
  ·have hne : a ≠ b := by rintro rfl; simp at hc3
   refine ab_seq_k fun K14 h14 => ?_
   simp
   refine h14 _ _ _ ?_
   clear h14 K14
   simp
   exact fin_of 1 (by simp [rs25, hne])
  ·have he : a[i] = b[i] := by simpa using hc3
   simp
   refine h12 _ _ _ ?_
   refine h11 _ _ _ ?_
   simp [wrap64 (x := (i : Int) + 1) (by omega) (by omega)]
   exact h8 _ _ _ (again (m - 1) (by omega) ⟨i + 1, by omega, by rw [hta, htb, hpre, he], by simp⟩)
 ·have hil : i = a.length := by simp at hc2; omega
  subst hil
  have he : a = b := by
   rw [List.take_length] at hpre
   rw [hpre, List.take_of_length_le (by omega)]
  simp
  refine h7 _ _ _ ?_
  refine h5 _ _ _ ?_
  refine ab_seq_k fun K15 h15 => ?_
  simp
  refine h15 _ _ _ ?_
  clear h15 K15
  simp
  exact fin_of 1 (by simp [rs25, he])
end Go.Ab
end
