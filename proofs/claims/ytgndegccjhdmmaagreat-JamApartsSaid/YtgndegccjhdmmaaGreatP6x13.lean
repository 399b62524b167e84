import Derived.Test.YtgndegccjhdmmaaGreatP6x12
/- Part 13 of what the theorem in T6 rests on: an abstract layer over the calculus, contracts of the functions of the program, and plain facts. -/
set_option linter.unusedVariables false
set_option linter.unusedSimpArgs false
set_option linter.constructorNameAsVariable false
set_option maxHeartbeats 4000000
set_option maxRecDepth 100000
section
section
namespace Go.Ab
open Go Go.Proofs
theorem FSpecQ.freeze {P : Program} {f : FuncId} {args : List V} {Q : V → List O → Prop} {w : V} (h : FSpecQ P f args [] Q) (hq : ∀ v σ', Q v σ' → ∃ k, frz k 0 σ' v = w) : FSpec P f args [] w [] := by
 refine ⟨h.1, fun C cargs hR ha => (h.2 C cargs hR ha).mono ?_⟩
 rintro e w' ⟨C', cv, v, σ', hQ, rfl, rfl, h1, h2, h3⟩
 obtain ⟨k, hk⟩ := hq v σ' hQ
 have hR0 := frzS_sound (n := 0) h1 k (Nat.zero_le _)
 have e0 : frzS k 0 σ' = [] := by simp [frzS]
 rw [e0] at hR0
 refine ⟨C'.trunc 0, cv, rfl, rfl, hR0, trunc_ext h2 hR.wf (by have := hR.len; simp at this; omega), ?_⟩
 rw [← hk]
 exact frz_sound h1 k h3
end Go.Ab
end
section
namespace Go.Ab
open Go Go.Proofs
theorem snoc_ind {α : Type} {P : List α → Prop} (h0 : P []) (h1 : ∀ l a, P l → P (l ++ [a])) (l : List α) : P l := by
 have : ∀ m : List α, P m.reverse := by
  intro m
  induction m with
  | nil => exact h0
  | cons a m ih => rw [List.reverse_cons]; exact h1 _ _ ih
 have := this l.reverse
 rwa [List.reverse_reverse] at this
def insGV {α : Type} (lt : α → α → Bool) (x : α) : List α → List α
 | [] => [x]
 | y :: r => if lt x y = true then y :: insGV lt x r else x :: y :: r
def insG {α : Type} (lt : α → α → Bool) (l : List α) (x : α) : List α := (insGV lt x l.reverse).reverse
def sortG {α : Type} (lt : α → α → Bool) (l : List α) : List α := l.foldl (insG lt) []
theorem insGV_all {α : Type} {lt : α → α → Bool} {x : α} : ∀ {B A : List α}, (∀ y ∈ B, lt x y = true) → insGV lt x (B ++ A) = B ++ insGV lt x A
 | [], A, _ => rfl
 | y :: B, A, h => by
  rw [List.cons_append, insGV, if_pos (h y (List.mem_cons_self ..)), insGV_all (B := B) (fun z hz => h z (List.mem_cons_of_mem _ hz))]
  rfl
theorem insG_all {α : Type} {lt : α → α → Bool} {x : α} {A B : List α} (h : ∀ y ∈ B, lt x y = true) : insG lt (A ++ B) x = insG lt A x ++ B := by
 unfold insG
 rw [List.reverse_append, insGV_all (fun y hy => h y (List.mem_reverse.1 hy)), List.reverse_append, List.reverse_reverse]
theorem insG_at {α : Type} {lt : α → α → Bool} {x : α} {l : List α} {j : Nat} (h1 : ∀ y ∈ l.drop j, lt x y = true) (h2 : ∀ y, 0 < j → l[j - 1]? = some y → ¬ lt x y = true) (hj : j ≤ l.length) : insG lt l x = l.take j ++ x :: l.drop j := by
 have e : l = l.take j ++ l.drop j := (List.take_append_drop j l).symm
 have : insG lt l x = insG lt (l.take j) x ++ l.drop j := by
  rw [← insG_all h1, List.take_append_drop]
 rw [this]
 cases j with
 | zero => simp [insG, insGV]
 | succ j =>
  have hjl : j < l.length := by omega
  have hy : l[j]? = some l[j] := List.getElem?_eq_getElem hjl
  have hn := h2 l[j] (by omega) hy
  have ht : l.take (j + 1) = l.take j ++ [l[j]] := by rw [List.take_add_one, hy]; rfl
  rw [ht]
  unfold insG
  rw [List.reverse_append, List.reverse_singleton, List.singleton_append, insGV, if_neg hn]
  simp
theorem insG_mem {α : Type} {lt : α → α → Bool} {x y : α} {l : List α} : y ∈ insG lt l x ↔ y = x ∨ y ∈ l := by
 have : ∀ l : List α, y ∈ insGV lt x l ↔ y = x ∨ y ∈ l := by
  intro l
  induction l with
  | nil => simp [insGV]
  | cons z r ih =>
   rw [insGV]
   split
   ·rw [List.mem_cons, ih, List.mem_cons]
    constructor <;> intro h <;> rcases h with h | h | h <;> simp [h]
   ·simp
 unfold insG
 rw [List.mem_reverse, this, List.mem_reverse]
theorem insG_len {α : Type} {lt : α → α → Bool} {x : α} {l : List α} : (insG lt l x).length = l.length + 1 := by
 have : ∀ l : List α, (insGV lt x l).length = l.length + 1 := by
  intro l
  induction l with
  | nil => rfl
  | cons z r ih => rw [insGV]; split <;> simp [ih]
 unfold insG
 rw [List.length_reverse, this, List.length_reverse]
theorem sortG_snoc {α : Type} {lt : α → α → Bool} {l : List α} {x : α} : sortG lt (l ++ [x]) = insG lt (sortG lt l) x := by simp [sortG]
theorem sortG_len {α : Type} {lt : α → α → Bool} {l : List α} : (sortG lt l).length = l.length := by
 have : ∀ (l acc : List α), (l.foldl (insG lt) acc).length = acc.length + l.length := by
  intro l
  induction l with
  | nil => intro acc; rfl
  | cons x l ih => intro acc; rw [List.foldl_cons, ih, insG_len, List.length_cons]; omega
 rw [sortG, this]; simp
theorem insG_perm {α : Type} {lt : α → α → Bool} {x : α} {l : List α} : (insG lt l x).Perm (x :: l) := by
 have : ∀ l : List α, (insGV lt x l).Perm (x :: l) := by
  intro l
  induction l with
  | nil => exact List.Perm.refl _
  | cons z r ih =>
   rw [insGV]
   split
   ·exact (List.Perm.cons z ih).trans (List.Perm.swap ..)
   ·exact List.Perm.refl _
 unfold insG
 exact (List.reverse_perm _).trans ((this _).trans (List.Perm.cons x (List.reverse_perm l)))
theorem sortG_perm {α : Type} {lt : α → α → Bool} {l : List α} : (sortG lt l).Perm l := by
 refine snoc_ind (P := fun l => (sortG lt l).Perm l) (List.Perm.refl _) ?_ l
 intro l a ih
 rw [sortG_snoc]
 refine insG_perm.trans ?_
 refine (List.Perm.cons a ih).trans ?_
 exact (List.perm_append_singleton a l).symm
def atG {α : Type} (l : List α) (x : α) (j : Nat) : List α := l.take j ++ x :: l.drop j
theorem atG_len {α : Type} {l : List α} {x : α} {j : Nat} (h : j ≤ l.length) : (atG l x j).length = l.length + 1 := by simp [atG]; omega
theorem atG_end {α : Type} {l : List α} {x : α} : atG l x l.length = l ++ [x] := by simp [atG]
theorem atG_get {α : Type} {l : List α} {x : α} {j : Nat} (h : j ≤ l.length) : (atG l x j)[j]? = some x := by
 unfold atG
 rw [List.getElem?_append_right (by rw [List.length_take]; omega)]
 simp [List.length_take, Nat.min_eq_left h]
theorem atG_prev {α : Type} {l : List α} {x : α} {j : Nat} (h : j < l.length) : (atG l x (j + 1))[j]? = l[j]? := by
 unfold atG
 rw [List.getElem?_append_left (by rw [List.length_take]; omega)]
 simp
theorem atG_swap {α : Type} {l : List α} {x y : α} {j : Nat} (h : l[j]? = some y) : ((atG l x (j + 1)).set (j + 1) y).set j x = atG l x j := by
 obtain ⟨hj, he⟩ := List.getElem?_eq_some_iff.1 h
 unfold atG
 have h1 : l.take (j + 1) = l.take j ++ [y] := by rw [List.take_add_one, h]; rfl
 have h2 : l.drop j = y :: l.drop (j + 1) := by rw [← he]; exact (List.drop_eq_getElem_cons hj)
 have h3 : (l.take j).length = j := by rw [List.length_take]; omega
 rw [h1, h2, List.append_assoc, List.set_append_right (h := by omega), h3, show j + 1 - j = 1 by omega]
 simp only [List.singleton_append, List.set_cons_succ, List.set_cons_zero]
 rw [List.set_append_right (h := by omega), h3, Nat.sub_self]
 rfl
theorem insGV_sorted {α : Type} {lt : α → α → Bool} (has : ∀ a b, lt a b = true → lt b a = false) (hntr : ∀ a b c, lt a b = false → lt b c = false → lt a c = false) {x : α} : ∀ {l : List α}, l.Pairwise (fun a b => lt a b = false) → (insGV lt x l).Pairwise (fun a b => lt a b = false)
 | [], _ => by simp [insGV]
 | z :: r, h => by
  rw [insGV]
  rw [List.pairwise_cons] at h
  split
  ·rename_i hlt
   rw [List.pairwise_cons]
   refine ⟨fun y hy => ?_, insGV_sorted has hntr h.2⟩
   have : y ∈ insG lt r.reverse x := by unfold insG; rw [List.reverse_reverse, List.mem_reverse]; exact hy
   rw [insG_mem, List.mem_reverse] at this
   rcases this with rfl | hr
   ·exact has _ _ hlt
   ·exact h.1 y hr
  ·rename_i hlt
   have hz : lt x z = false := by simpa using hlt
   rw [List.pairwise_cons]
   refine ⟨fun y hy => ?_, List.pairwise_cons.2 h⟩
   rcases List.mem_cons.1 hy with rfl | hr
   ·exact hz
   ·exact hntr _ _ _ hz (h.1 y hr)
theorem sortG_sorted {α : Type} {lt : α → α → Bool} (has : ∀ a b, lt a b = true → lt b a = false) (hntr : ∀ a b c, lt a b = false → lt b c = false → lt a c = false) {l : List α} : (sortG lt l).Pairwise (fun a b => lt b a = false) := by
 refine snoc_ind (P := fun l => (sortG lt l).Pairwise (fun a b => lt b a = false)) (by simp [sortG]) ?_ l
 intro l a ih
 rw [sortG_snoc]
 unfold insG
 rw [List.pairwise_reverse]
 refine insGV_sorted has hntr ?_
 rw [List.pairwise_reverse]
 exact ih
def lexN (s t : Nat) : Bool := lexL (bl s 12) (bl t 12)
def lexS (l : List Nat) : List Nat := sortG lexN l
theorem lexS_sorted {l : List Nat} : (lexS l).Pairwise (fun a b => lexN b a = false) := sortG_sorted (lt := lexN) (fun a b h => lexL_asym h) (fun a b c h1 h2 => lexL_ntr h1 h2)
theorem lexS_perm {l : List Nat} : (lexS l).Perm l := sortG_perm
theorem lexS_len {l : List Nat} : (lexS l).length = l.length := sortG_len
def lv (l : List Nat) : List V := l.map listV
@[simp] theorem lv_len {l : List Nat} : (lv l).length = l.length := by simp [lv]
theorem listV_pure {s : Nat} : (listV s).pure = true := by simp [listV]
theorem listV_one {s : Nat} : cellsOf (listV s) = some [listV s] := rfl
@[simp] theorem lv_pure {l : List Nat} : pureL (lv l) = true := by
 rw [pureL_all]
 intro x hx
 obtain ⟨s, -, rfl⟩ := List.mem_map.1 hx
 exact listV_pure
theorem lv_get {l : List Nat} {i s : Nat} (h : l[i]? = some s) : (lv l)[i]? = some (listV s) := by unfold lv; rw [List.getElem?_map, h]; rfl
theorem lv_set {l : List Nat} {i s : Nat} : (lv l).set i (listV s) = lv (l.set i s) := by simp [lv, List.map_set]
theorem lv_append {l m : List Nat} : lv (l ++ m) = lv l ++ lv m := by simp [lv]
theorem slcHM {es len : Nat} {σ : List O} {v : V} {C : Ct} {k n : Nat} {cs : List V} (h : Gr k es σ v n cs) (hC : C v σ) : slcC es v none (some (.i .i64 n)) (some (.i .i64 n)) σ C := by
 rcases h.cases with ⟨rfl, rfl, rfl⟩ | ⟨id, ver, hn, hid, rfl, hs, hlt⟩
 ·simpa using hC
 ·obtain ⟨h1, h2⟩ := List.getElem?_eq_some_iff.1 hs
  simp [hs, h2, liveV]
  exact hC
theorem lists76 {L : List Nat} {f : Bool} {σ : List O} (hL : ∀ s ∈ L, s < 2 ^ 12) (hl : L.length ≤ 60000) : FSpec Tryz.prog 76 [.ss (us L) L.length f] σ (.ss (lv (lexS L)) L.length (L.length == 0)) σ := by
 refine FSpec.frame (σ := σ) ?_ (by simp) (by simp)
 refine fn76.spec0 mixed noIt_ok ?_
 rw [ic76]
 refine ab_seq_k fun K1 h1 => ?_
 simp
 refine h1 _ _ _ ?_
 clear h1 K1
 refine ab_seq_k fun K2 h2 => ?_
 simp
 refine h2 _ _ _ ?_
 clear h2 K2
 refine ab_seq_k fun K3 h3 => ?_
 refine ab_seq_k fun K4 h4 => ?_
 simp
 refine h4 _ _ _ ?_
 clear h4 K4
 refine ab_block_k fun K5 h5 => ?_
 refine ab_loop_k (fun m env σ => ∃ (i : Nat) (v : V), i + m = L.length ∧ env = [(3, v), (6, .ss (us L) L.length f), (7, .i .i64 L.length), (8, .i .i64 i)] ∧ Gr 0 1 σ v i (lv (L.take i))) L.length ⟨0, .ss [] 0 true, by omega, by simp, by simpa [lv] using Gr.nil⟩ ?_
 rintro m env σ ⟨i, v, hi, rfl, hv⟩ K6 h6
 rw [ic76_0]
 refine ab_seq_k fun K7 h7 => ?_
 simp
 refine h7 _ _ _ ?_
 clear h7 K7
 refine ab_seq_k fun K8 h8 => ?_
 refine ab_cond_of rfl (fun hc => ?_) (fun hc => ?_)
 ·have hil : i < L.length := by simpa using hc
  have hx : L[i]? = some L[i] := List.getElem?_eq_getElem hil
  have hxm : L[i] ∈ L := List.getElem_mem hil
  have htk : lv (L.take (i + 1)) = lv (L.take i) ++ [listV L[i]] := by rw [List.take_add_one, hx, lv_append]; rfl
  generalize L[i] = s at *
  have hs := hL s hxm
  obtain ⟨hx1, hx'⟩ := List.getElem?_eq_some_iff.1 hx
  simp
  refine h8 _ _ _ ?_
  clear h8 K8
  refine ab_seq_k fun K9 h9 => ?_
  refine ab_block_k fun K10 h10 => ?_
  refine ab_seq_k fun K11 h11 => ?_
  simp [hil, hx, hx']
  refine h11 _ _ _ ?_
  clear h11 K11
  simp [abDs_consU, drU, recheck_cons, recheck_nil, rcK, IS.dst]
  refine lenG hv ?_
  simp [abDs_consU, drU, recheck_cons, recheck_nil, rcK, IS.dst]
  refine lenG hv ?_
  simp [abDs_consU, drU, recheck_cons, recheck_nil, rcK, IS.dst]
  refine slcHM (len := 0) hv ?_
  simp [abDs_consU, drU, recheck_cons, recheck_nil, rcK, IS.dst]
  refine callK_of (list68 (by omega)) ?_
  simp [abDs_consU, drU, recheck_cons, recheck_nil, rcK, IS.dst]
  refine appG hv (by omega) (by omega) (by omega) rfl ?_
  intro v' σ' hv' hgr
  simp [abDs_consU, drU, recheck_cons, recheck_nil, rcK, IS.dst]
  refine h10 _ _ _ (h9 _ _ _ ?_)
  simp [wrap64 (x := (i : Int) + 1) (by omega) (by omega)]
  exact h6 _ _ _ (again (m - 1) (by omega) ⟨i + 1, v', by omega, by simp, by rw [htk]; exact hv'⟩)
 ·have hil : i = L.length := by simp at hc; omega
  subst hil
  rw [List.take_length] at hv
  simp
  refine h5 _ _ _ (h3 _ _ _ ?_)
  clear h3 h5 h6 h8
  have hD : ∀ x ∈ lv L, DL x := fun x hx => by
   obtain ⟨s, hs, rfl⟩ := List.mem_map.1 hx
   exact ⟨s, hL s hs, rfl⟩
  have hp : (lv (lexS L)).Perm (lv L) := lexS_perm.map _
  have hso : (lv (lexS L)).Pairwise (fun x y => lexL (unL y) (unL x) = false) := by
   unfold lv
   rw [List.pairwise_map]
   refine lexS_sorted.imp fun {a b} h => ?_
   simp only [listV, unL_list]
   exact h
  obtain ⟨σ', hsrt, hv', -, -⟩ := srtL hv hl hD hp hso
  refine ab_seq_k fun K20 h20 => ?_
  simp
  refine callK_of (hsrt) ?_
  simp
  refine h20 _ _ _ ?_
  clear h20 K20
  refine ab_seq_k fun K21 h21 => ?_
  simp
  refine h21 _ _ _ ?_
  clear h21 K21
  simp
  refine fin_of 2 ?_
  simp [-frz, rs76]
  rw [frz_G hv' (by simp)]
theorem before114 {a b : List Int} {fa fb : Bool} {σ : List O} (ha : (a.length : Int) < 1000000000) : FSpec Tryz.prog 114 [sl a fa, sl b fb] σ (.b (lexL a b)) σ := by
 refine FSpec.frame (σ := σ) ?_ (by simp) rfl
 refine fn114.spec0 mixed noIt_ok ?_
 rw [ic114]
 refine ab_seq_k fun K1 h1 => ?_
 simp
 refine h1 _ _ _ ?_
 clear h1 K1
 refine ab_seq_k fun K2 h2 => ?_
 refine ab_seq_k fun K3 h3 => ?_
 simp
 refine h3 _ _ _ ?_
 clear h3 K3
 refine ab_block_k fun K4 h4 => ?_
 refine ab_loop_k (fun m env σ => ∃ i : Nat, i + m = a.length ∧ i ≤ b.length ∧ lexL a b = lexL (a.drop i) (b.drop i) ∧ env = [(0, sl a fa), (1, sl b fb), (5, .i .i64 i)] ∧ σ = []) a.length ⟨0, by omega, by omega, by simp, by simp, rfl⟩ ?_
 rintro m env σ ⟨i, hi, hib, hd, rfl, rfl⟩ K5 h5
 rw [ic114_0]
 refine ab_seq_k fun K6 h6 => ?_
 refine ab_seq_k fun K7 h7 => ?_
 have hout : ∀ env, get env 0 = sl a fa → get env 1 = sl b fb → ¬ (i < a.length ∧ i < b.length) → K4 (some 0) env [] := by
  intro env w0 w1 hno
  refine h4 _ _ _ (h2 _ _ _ ?_)
  refine ab_seq_k fun K20 h20 => ?_
  simp [w0, w1]
  refine h20 _ _ _ ?_
  clear h20 K20
  simp
  refine fin_of 1 ?_
  have hv : lexL a b = decide (a.length < b.length) := by
   rw [hd]
   by_cases hia : i < a.length
   ·have hbe : b.drop i = [] := List.drop_of_length_le (by omega)
    rw [hbe, List.drop_eq_getElem_cons hia]
    have : ¬ a.length < b.length := by omega
    simp [lexL, this]
   ·have hae : a.drop i = [] := List.drop_of_length_le (by omega)
    rw [hae]
    by_cases hil : i < b.length
    ·rw [List.drop_eq_getElem_cons hil]
     have : a.length < b.length := by omega
     simp [lexL, this]
    ·have hbe : b.drop i = [] := List.drop_of_length_le (by omega)
     rw [hbe]
     have : ¬ a.length < b.length := by omega
     simp [lexL, this]
  simp [rs114, hv]
 by_cases hia : i < a.length
 ·by_cases hil : i < b.length
  ·obtain ⟨a1, a2, -⟩ := getD_get hia
   obtain ⟨b1, b2, -⟩ := getD_get hil
   rw [List.drop_eq_getElem_cons hia, List.drop_eq_getElem_cons hil, a2, b2] at hd
   generalize a.getD i 0 = x at *
   generalize b.getD i 0 = y at *
   simp only [lexL] at hd
   simp [hia, hil]
   refine h7 _ _ _ ?_
   clear h7
   refine ab_cond_of rfl (fun _ => ?_) (fun h => by cases h)
   simp
   refine h6 _ _ _ ?_
   refine ab_seq_k fun K8 h8 => ?_
   refine ab_block_k fun K9 h9 => ?_
   refine ab_seq_k fun K10 h10 => ?_
   simp [abDs_consU, drU, recheck_cons, recheck_nil, rcK, IS.dst, hia, hil, a2, b2]
   refine h10 _ _ _ ?_
   by_cases hxy : x = y
   ·rw [if_neg (by omega), if_neg (by omega)] at hd
    refine ab_cond_of rfl (fun h => by simp [hxy] at h) (fun _ => ?_)
    simp
    refine h9 _ _ _ (h8 _ _ _ ?_)
    simp [wrap64 (x := (i : Int) + 1) (by omega) (by omega)]
    exact h5 _ _ _ (again (m - 1) (by omega) ⟨i + 1, by omega, by omega, hd, by simp, rfl⟩)
   ·refine ab_cond_of rfl (fun _ => ?_) (fun h => by simp [hxy] at h)
    refine ab_seq_k fun K11 h11 => ?_
    simp [abDs_consU, drU, recheck_cons, recheck_nil, rcK, IS.dst, hia, hil, a2, b2]
    refine h11 _ _ _ ?_
    simp
    refine fin_of 1 ?_
    by_cases hlt : x < y
    ·rw [if_pos hlt] at hd
     simp [rs114, hd, hlt]
    ·rw [if_neg hlt, if_pos (by omega)] at hd
     simp [rs114, hd, hlt]
  ·simp [hia, hil]
   refine h7 _ _ _ ?_
   refine ab_cond_of rfl (fun h => by cases h) (fun _ => ?_)
   simp
   exact hout _ rfl rfl (by omega)
 ·simp [hia]
  refine h7 _ _ _ ?_
  refine ab_cond_of rfl (fun h => by cases h) (fun _ => ?_)
  simp
  exact hout _ rfl rfl (by omega)
end Go.Ab
end
section
namespace Go.Ab
open Go Go.Proofs
theorem put88 {S : List Nat} {x : Nat} {f : Bool} {σ : List O} (hS : S.length ≤ 60000) : FSpec Tryz.prog 88 [.ss (lv S) S.length f, listV x] σ (.ss (lv (insG lexN S x)) (S.length + 1) false) σ := by
 refine FSpec.frame (σ := σ) ?_ (by simp [listV]) (by simp)
 refine fn88.spec0 mixed noIt_ok ?_
 rw [ic88]
 refine ab_seq_k fun K1 h1 => ?_
 simp
 refine h1 _ _ _ ?_
 clear h1 K1
 refine ab_seq_k fun K2 h2 => ?_
 have hK2 : ∀ ver, K2 (some 0) [(5, .s 0 ver 0 (S.length + 1) 1)] [.row ver (lv (S ++ [x]))] := by
  intro ver
  refine h2 _ _ _ ?_
  clear h2
  refine ab_seq_k fun K3 h3 => ?_
  refine ab_seq_k fun K4 h4 => ?_
  simp [wrap64 (x := (S.length : Int)) (by omega) (by omega)]
  refine h4 _ _ _ ?_
  clear h4 K4
  refine ab_block_k fun K5 h5 => ?_
  refine ab_loop_k (fun m env σ => ∃ j : Nat, j = m ∧ j ≤ S.length ∧ (∀ y ∈ S.drop j, lexN x y = true) ∧ env = [(5, .s 0 ver 0 (S.length + 1) 1), (6, .i .i64 j)] ∧ σ = [.row ver (lv (atG S x j))]) S.length ⟨S.length, rfl, Nat.le_refl _, by simp, by simp, by simp [atG_end]⟩ ?_
  rintro m env σ ⟨j, rfl, hj, hpre, rfl, rfl⟩ K6 h6
  rw [ic88_0]
  refine ab_seq_k fun K7 h7 => ?_
  refine ab_seq_k fun K8 h8 => ?_
  have hfin : ∀ env, get env 5 = .s 0 ver 0 (S.length + 1) 1 → (∀ y, 0 < j → S[j - 1]? = some y → ¬ lexN x y = true) → K5 (some 0) env [.row ver (lv (atG S x j))] := by
   intro env w5 hst
   refine h5 _ _ _ (h3 _ _ _ ?_)
   refine ab_seq_k fun K20 h20 => ?_
   simp [w5]
   refine h20 _ _ _ ?_
   clear h20 K20
   simp
   refine fin_of 2 ?_
   have hG : Gr 0 1 [O.row ver (lv (atG S x j))] (.s 0 ver 0 (S.length + 1) 1) (S.length + 1) (lv (atG S x j)) := ⟨by simp [atG_len hj], .inr ⟨by omega, 0, ver, by omega, rfl, rfl⟩⟩
   have e : insG lexN S x = atG S x j := insG_at hpre hst hj
   simp [-frz, rs88]
   rw [frz_G hG (by simp), e]
   simp
  have hlen : (lv (atG S x j)).length = S.length + 1 := by simp [atG_len hj]
  by_cases hj0 : j = 0
  ·subst hj0
   simp [abDs_consU, drU, recheck_cons, recheck_nil, rcK, IS.dst]
   refine h8 _ _ _ ?_
   refine ab_cond_of rfl (fun h => by cases h) (fun _ => ?_)
   simp
   exact hfin _ rfl (fun y h => by omega)
  obtain ⟨j, rfl⟩ : ∃ j', j = j' + 1 := ⟨j - 1, by omega⟩
  have hjl : j < S.length := by omega
  have hy : S[j]? = some S[j] := List.getElem?_eq_getElem hjl
  generalize S[j] = y at hy
  have g1 : (lv (atG S x (j + 1)))[j + 1]? = some (listV x) := lv_get (atG_get (by omega))
  have g2 : (lv (atG S x (j + 1)))[j]? = some (listV y) := lv_get (by rw [atG_prev hjl]; exact hy)
  have hsw : ((lv (atG S x (j + 1))).set (j + 1) (listV y)).set j (listV x) = lv (atG S x j) := by rw [lv_set, lv_set, atG_swap hy]
  have hl1 := bl_len (s := x) (k := 12)
  have hb := fun σ => before114 (a := bl x 12) (b := bl y 12) (fa := (bl x 12).length == 0) (fb := (bl y 12).length == 0) (σ := σ) (by omega)
  generalize hA : lv (atG S x (j + 1)) = A at *
  obtain ⟨g1l, g1'⟩ := List.getElem?_eq_some_iff.1 g1
  obtain ⟨g2l, g2'⟩ := List.getElem?_eq_some_iff.1 g2
  have z1 : (0 : Int) < (j : Int) + 1 := by omega
  have z2 : (0 : Int) ≤ (j : Int) + 1 := by omega
  have z3 : (j : Int) < (S.length : Int) + 1 := by omega
  have z4 : (j : Int) + 1 < (S.length : Int) + 1 := by omega
  have zj := wrap64 (x := (j : Int)) (by omega) (by omega)
  simp [abDs_consU, drU, recheck_cons, recheck_nil, rcK, IS.dst, z1, z2, z3, z4, zj, g1, g1', g2, g2', hjl]
  refine callK_of (hb _) ?_
  have hly : ¬ lexN x y = true → ∀ y', 0 < j + 1 → S[j + 1 - 1]? = some y' → ¬ lexN x y' = true := fun h y' _ hy' => by
   rw [Nat.add_sub_cancel, hy] at hy'; cases hy'; exact h
  cases hl : lexL (bl x 12) (bl y 12) with
  | true =>
   simp [abDs_consU, drU, recheck_cons, recheck_nil, rcK, IS.dst]
   refine h8 _ _ _ ?_
   clear h8
   refine ab_cond_of rfl (fun _ => ?_) (fun h => by cases h)
   simp
   refine h7 _ _ _ ?_
   refine ab_seq_k fun K9 h9 => ?_
   refine ab_block_k fun K10 h10 => ?_
   simp [abDs_consU, drU, recheck_cons, recheck_nil, rcK, IS.dst, z1, z2, z3, z4, zj, g1, g1', g2, g2', hjl, listV_one]
   rw [hsw]
   refine ⟨by omega, by omega, ?_⟩
   refine h10 _ _ _ (h9 _ _ _ ?_)
   simp [zj]
   refine h6 _ _ _ (again j (by omega) ⟨j, rfl, by omega, fun z hz => ?_, by simp [zj], rfl⟩)
   rw [List.drop_eq_getElem_cons hjl, List.mem_cons] at hz
   rcases hz with rfl | hz
   ·have e : S[j] = y := by
     have := List.getElem?_eq_getElem hjl
     rw [hy] at this
     exact (Option.some.inj this).symm
    rw [e]; exact hl
   ·exact hpre z hz
  | false =>
   simp [abDs_consU, drU, recheck_cons, recheck_nil, rcK, IS.dst]
   refine h8 _ _ _ ?_
   refine ab_cond_of rfl (fun h => by cases h) (fun _ => ?_)
   simp
   exact hfin _ rfl (hly (by unfold lexN; rw [hl]; simp))
 clear h2
 simp
 by_cases hS0 : S = []
 ·subst hS0
  simp [lv, listV_one] at hK2 ⊢
  exact hK2 0
 ·have hne : S.length ≠ 0 := fun h => hS0 (List.length_eq_zero_iff.1 h)
  simp [hS0, listV_one]
  refine ⟨by omega, by omega, ?_⟩
  have := hK2 1
  rw [lv_append] at this
  exact this
theorem bl_sublen {s t : Nat} (h : ∀ j, s.testBit j = true → t.testBit j = true) : ∀ {k : Nat}, (bl s k).length ≤ (bl t k).length
 | 0 => Nat.le_refl _
 | k + 1 => by
  have ih := bl_sublen h (k := k)
  simp only [bl]
  cases hs : s.testBit k with
  | true => rw [h k hs]; simp; exact ih
  | false =>
   cases ht : t.testBit k <;> simp <;> omega
theorem bl_lt {s t : Nat} (h : ∀ j, s.testBit j = true → t.testBit j = true) : ∀ {k : Nat}, (∃ j, j < k ∧ s.testBit j = false ∧ t.testBit j = true) → (bl s k).length < (bl t k).length
 | 0, ⟨j, hj, _⟩ => by omega
 | k + 1, ⟨j, hj, h1, h2⟩ => by
  have hle := bl_sublen h (k := k)
  simp only [bl]
  by_cases hjk : j = k
  ·subst hjk
   rw [h1, h2]
   simp; omega
  ·have ih := bl_lt h (k := k) ⟨j, by omega, h1, h2⟩
   cases hs : s.testBit k with
   | true => rw [h k hs]; simp; exact ih
   | false =>
    cases ht : t.testBit k <;> simp <;> omega
theorem least_ex {p : Nat → Prop} {m : Nat → Nat} : ∀ (k : Nat), (∃ s, p s ∧ m s ≤ k) → ∃ s, p s ∧ ∀ t, p t → m s ≤ m t
 | 0, ⟨s, h1, h2⟩ => ⟨s, h1, fun t _ => by omega⟩
 | k + 1, ⟨s, h1, h2⟩ => by
  by_cases h : ∃ t, p t ∧ m t ≤ k
  ·exact least_ex k h
  ·refine ⟨s, h1, fun t ht => ?_⟩
   false_or_by_contra
   exact h ⟨t, ht, by omega⟩
theorem open_nil {J : List Lg} {f : Bool} (hl : ∀ x ∈ J, x.2.1.length ≤ 1000000) : (checkJ J ≠ 0 ∧ openV J f [] = .tup [.np, .i .i64 (checkJ J)]) ∨ (checkJ J = 0 ∧ JOK J ∧ openV J f [] = .tup [heapV J f, .i .i64 0]) := by
 by_cases hc : checkJ J = 0
 ·exact .inr ⟨hc, check_ok hl hc, by unfold openV; rw [if_neg (by simp [hc]), if_neg (by simp [isL, isLF])]⟩
 ·exact .inl ⟨hc, by unfold openV; rw [if_pos hc]⟩
end Go.Ab
end
end
section
namespace Go.Ab
open Go Go.Proofs
def gl (B : List (List Int × Bool)) (i : Nat) : List Int := (B.getD i ([], true)).1
theorem gl_get {B : List (List Int × Bool)} {i : Nat} {p : List Int × Bool} (h : B[i]? = some p) : gl B i = p.1 := by unfold gl; rw [List.getD_eq_getElem?_getD, h]; rfl
def errL (J : List Lg) : List (List Int × Bool) → Int
 | [] => 0
 | p :: r => if lockE J p.1 ≠ 0 then lockE J p.1 else errL J r
theorem errL_cons {J : List Lg} {p : List Int × Bool} {r : List (List Int × Bool)} : errL J (p :: r) = if lockE J p.1 ≠ 0 then lockE J p.1 else errL J r := rfl
theorem errL_zero {J : List Lg} : ∀ {B : List (List Int × Bool)}, errL J B = 0 ↔ ∀ p ∈ B, lockE J p.1 = 0
 | [] => by simp [errL]
 | p :: r => by
  have ih := errL_zero (J := J) (B := r)
  unfold errL
  by_cases h : lockE J p.1 = 0
  ·rw [if_neg (by simp [h]), ih]
   simp [h]
  ·rw [if_pos h]
   constructor
   ·intro h'; exact absurd h' h
   ·intro h'; exact absurd (h' p (List.mem_cons_self ..)) h
def noB (B : List (List Int × Bool)) (n : Nat) : Prop := ∀ i, i < n → ∀ k, k < i → meetB (gl B i) (gl B k) = false
def bump (B : List (List Int × Bool)) : Bool := (List.range B.length).any fun i => (List.range i).any fun k => meetB (gl B i) (gl B k)
theorem bump_true {B : List (List Int × Bool)} {i k : Nat} (hi : i < B.length) (hk : k < i) (h : meetB (gl B i) (gl B k) = true) : bump B = true := by
 unfold bump
 rw [List.any_eq_true]
 refine ⟨i, List.mem_range.2 hi, ?_⟩
 rw [List.any_eq_true]
 exact ⟨k, List.mem_range.2 hk, h⟩
theorem bump_false {B : List (List Int × Bool)} : bump B = false ↔ noB B B.length := by
 unfold bump noB
 constructor
 ·intro h i hi k hk
  rw [List.any_eq_false] at h
  have h1 := h i (List.mem_range.2 hi)
  rw [List.any_eq_true] at h1
  cases hm : meetB (gl B i) (gl B k) with
  | false => rfl
  | true => exact absurd ⟨k, List.mem_range.2 hk, hm⟩ h1
 ·intro h
  rw [List.any_eq_false]
  intro i hi
  rw [List.any_eq_true]
  rintro ⟨k, hk, hm⟩
  rw [h i (List.mem_range.1 hi) k (List.mem_range.1 hk)] at hm
  cases hm
theorem noB_succ {B : List (List Int × Bool)} {n : Nat} (h : noB B n) (hn : ∀ k, k < n → meetB (gl B n) (gl B k) = false) : noB B (n + 1) := by
 intro i hi k hk
 by_cases h1 : i < n
 ·exact h i h1 k hk
 ·have : i = n := by omega
  subst this
  exact hn k hk
def apE (J : List Lg) (B : List (List Int × Bool)) : Int := if checkJ J ≠ 0 then checkJ J else if 12 < B.length then 6 else if errL J B ≠ 0 then errL J B else if bump B = true then 11 else 0
def apN (J : List Lg) (B : List (List Int × Bool)) : Int := if apE J B = 0 then B.length else 0
def apV (J : List Lg) (B : List (List Int × Bool)) : V := .tup [.i .i64 (apN J B), .i .i64 (apE J B)]
theorem apV_err {J : List Lg} {B : List (List Int × Bool)} {e : Int} (h : apE J B = e) (he : e ≠ 0) : apV J B = .tup [.i .i64 0, .i .i64 e] := by
 unfold apV apN
 rw [h, if_neg he]
theorem apV_ok {J : List Lg} {B : List (List Int × Bool)} (h : apE J B = 0) : apV J B = .tup [.i .i64 B.length, .i .i64 0] := by
 unfold apV apN
 rw [h, if_pos rfl]
def orB (B : List (List Int × Bool)) : Nat → Nat
 | 0 => 0
 | n + 1 => orB B n ||| setB (gl B n)
theorem orB_bit {B : List (List Int × Bool)} : ∀ {n j : Nat}, (orB B n).testBit j = true ↔ ∃ k, k < n ∧ (setB (gl B k)).testBit j = true
 | 0, j => by simp [orB]
 | n + 1, j => by
  rw [orB, Nat.testBit_or, Bool.or_eq_true, orB_bit]
  constructor
  ·rintro (⟨k, h1, h2⟩ | h)
   ·exact ⟨k, by omega, h2⟩
   ·exact ⟨n, by omega, h⟩
  ·rintro ⟨k, h1, h2⟩
   by_cases h : k < n
   ·exact .inl ⟨k, h, h2⟩
   ·exact .inr (by rw [show n = k by omega]; exact h2)
theorem orB_lt {B : List (List Int × Bool)} {m : Nat} : ∀ {n : Nat}, (∀ k, k < n → setB (gl B k) < 2 ^ m) → orB B n < 2 ^ m
 | 0, _ => Nat.two_pow_pos m
 | n + 1, h => Nat.or_lt_two_pow (orB_lt fun k hk => h k (by omega)) (h n (by omega))
theorem meetB_iff {A B : List Int} : meetB A B = true ↔ ∃ x, x ∈ A ∧ x ∈ B := by
 unfold meetB
 rw [List.any_eq_true]
 constructor
 ·rintro ⟨x, h1, h2⟩; exact ⟨x, h1, of_decide_eq_true h2⟩
 ·rintro ⟨x, h1, h2⟩; exact ⟨x, h1, decide_eq_true h2⟩
theorem meet_set {A B : List Int} (hA : ∀ x ∈ A, 0 ≤ x) (hB : ∀ x ∈ B, 0 ≤ x) : meetB A B = true ↔ setB A &&& setB B ≠ 0 := by
 rw [meetB_iff, and_ne]
 constructor
 ·rintro ⟨x, h1, h2⟩
  obtain ⟨n, rfl⟩ : ∃ n : Nat, x = n := ⟨x.toNat, by have := hA x h1; omega⟩
  exact ⟨n, (setB_bit hA).2 h1, (setB_bit hB).2 h2⟩
 ·rintro ⟨j, h1, h2⟩
  exact ⟨j, (setB_bit hA).1 h1, (setB_bit hB).1 h2⟩
theorem orB_meet {B : List (List Int × Bool)} {n : Nat} (h : ∀ k, k ≤ n → ∀ x ∈ gl B k, 0 ≤ x) : orB B n &&& setB (gl B n) ≠ 0 ↔ ∃ k, k < n ∧ meetB (gl B n) (gl B k) = true := by
 rw [and_ne]
 constructor
 ·rintro ⟨j, h1, h2⟩
  obtain ⟨k, h3, h4⟩ := orB_bit.1 h1
  exact ⟨k, h3, (meet_set (h n (Nat.le_refl n)) (h k (by omega))).2 (and_ne.2 ⟨j, h2, h4⟩)⟩
 ·rintro ⟨k, h3, h4⟩
  obtain ⟨j, h5, h6⟩ := and_ne.1 ((meet_set (h n (Nat.le_refl n)) (h k (by omega))).1 h4)
  exact ⟨j, orB_bit.2 ⟨k, h3, h6⟩, h5⟩
theorem lockE_ok {J : List Lg} {k : List Int} (h : lockE J k = 0) : checkJ J = 0 ∧ isL J.length k = true ∧ lockB J (setB k) = true := by
 unfold lockE at h
 by_cases h1 : checkJ J = 0
 ·rw [if_neg (by simp [h1])] at h
  cases h2 : isL J.length k with
  | false => rw [if_pos h2] at h; cases h
  | true =>
   rw [if_neg (by simp [h2])] at h
   cases h3 : lockB J (setB k) with
   | false => rw [if_pos h3] at h; cases h
   | true => exact ⟨h1, rfl, rfl⟩
 ·rw [if_pos h1] at h
  exact absurd h h1
theorem apart41 {J : List Lg} {f fB : Bool} {B : List (List Int × Bool)} {σ : List O} (hJ : J.length ≤ 1000000) (hl : ∀ x ∈ J, x.2.1.length ≤ 1000000) (hB : B.length ≤ 1000000) (hb : ∀ p ∈ B, p.1.length ≤ 1000000) :
  FSpec Tryz.prog 41 [jamV J f, .ss (lls B) B.length fB] σ (apV J B) σ := by
 refine FSpec.frame (σ := σ) ?_ (by simp) rfl
 have h62 := fun σ => open62 (f := f) (l := []) (fl := true) (σ := σ) hJ hl (by simp)
 refine fn41.spec0 mixed noIt_ok ?_
 rw [ic41]
 refine ab_seq_k fun K1 h1 => ?_
 simp
 refine h1 _ _ _ ?_
 clear h1 K1
 refine ab_seq_k fun K2 h2 => ?_
 simp
 refine callK_of (h62 _) ?_
 rcases open_nil (f := f) hl with ⟨hc, ho⟩ | ⟨hc, hJO, ho⟩
 ·have hv : apV J B = .tup [.i .i64 0, .i .i64 (checkJ J)] := apV_err (by unfold apE; rw [if_pos hc]) hc
  rw [ho]
  simp
  refine h2 _ _ _ ?_
  clear h2 K2
  refine ab_seq_k fun K3 h3 => ?_
  refine ab_block_k fun K4 h4 => ?_
  refine ab_seq_k fun K5 h5 => ?_
  simp
  refine h5 _ _ _ ?_
  clear h5 K5
  refine ab_cond_of rfl (fun _ => ?_) (fun h => by simp at h; omega)
  refine ab_seq_k fun K6 h6 => ?_
  simp
  refine h6 _ _ _ ?_
  clear h6 K6
  simp
  refine fin_of 1 ?_
  simp [rs41, hv]
 ·have hN := hJO.2.1
  rw [ho]
  simp
  refine h2 _ _ _ ?_
  clear h2 K2
  refine ab_seq_k fun K3 h3 => ?_
  refine ab_block_k fun K4 h4 => ?_
  refine ab_seq_k fun K5 h5 => ?_
  simp
  refine h5 _ _ _ ?_
  clear h5 K5
  refine ab_cond_of rfl (fun h => by simp at h) (fun _ => ?_)
  refine ab_seq_k fun K6 h6 => ?_
  simp
  refine h6 _ _ _ ?_
  clear h6 K6
  by_cases hB12 : 12 < B.length
  ·have hv : apV J B = .tup [.i .i64 0, .i .i64 6] := apV_err (by unfold apE; rw [if_neg (by simp [hc]), if_pos hB12]) (by decide)
   refine ab_cond_of rfl (fun _ => ?_) (fun h => by have := of_decide_eq_false h; omega)
   refine ab_seq_k fun K7 h7 => ?_
   simp
   refine h7 _ _ _ ?_
   clear h7 K7
   simp
   refine fin_of 1 ?_
   simp [rs41, hv]
  ·refine ab_cond_of rfl (fun h => by have := of_decide_eq_true h; omega) (fun _ => ?_)
   simp
   refine h4 _ _ _ (h3 _ _ _ ?_)
   clear h3 h4 K3 K4
   refine ab_seq_k fun K8 h8 => ?_
   refine ab_seq_k fun K9 h9 => ?_
   simp
   refine h9 _ _ _ ?_
   clear h9 K9
   refine ab_block_k fun K10 h10 => ?_
   refine ab_loop_k (fun m env σ => ∃ n : Nat, n + m = B.length ∧ errL J B = errL J (B.drop n) ∧ env = [(1, .ss (lls B) B.length fB), (2, .p 0 0 0), (28, .ss (lls B) B.length fB), (29, .i .i64 B.length), (30, .i .i64 n)] ∧ σ = [.row 0 [slJ J f]]) B.length ⟨0, by omega, by simp, rfl, rfl⟩ ?_
   rintro m env σ ⟨n, hn, hd, rfl, rfl⟩ K11 h11
   rw [ic41_0]
   refine ab_seq_k fun K12 h12 => ?_
   simp
   refine h12 _ _ _ ?_
   clear h12 K12
   refine ab_seq_k fun K13 h13 => ?_
   refine ab_cond_of rfl (fun hc1 => ?_) (fun hc1 => ?_)
   ·have hnl : n < B.length := by simp at hc1; omega
    have hp : B[n]? = some B[n] := List.getElem?_eq_getElem hnl
    have hpm : B[n] ∈ B := List.getElem_mem hnl
    rw [List.drop_eq_getElem_cons hnl] at hd
    rw [errL_cons] at hd
    have hpl := hb _ hpm
    generalize B[n] = p at *
    have hlp := lls_get hp
    obtain ⟨g1, g2⟩ := List.getElem?_eq_some_iff.1 hlp
    have h38 := fun σ => check38 (f := f) (k := p.1) (fk := p.2) (σ := σ) hJ hl hpl
    simp
    refine h13 _ _ _ ?_
    clear h13 K13
    refine ab_seq_k fun K14 h14 => ?_
    refine ab_block_k fun K15 h15 => ?_
    refine ab_seq_k fun K16 h16 => ?_
    simp [hnl, hlp, g1, g2]
    refine h16 _ _ _ ?_
    clear h16 K16
    refine ab_seq_k fun K17 h17 => ?_
    simp
    refine callK_of (h38 _) ?_
    simp
    refine h17 _ _ _ ?_
    clear h17 K17
    refine ab_seq_k fun K18 h18 => ?_
    simp
    refine h18 _ _ _ ?_
    clear h18 K18
    by_cases he : lockE J p.1 = 0
    ·rw [if_neg (by simp [he])] at hd
     refine ab_cond_of rfl (fun h => by simp [he] at h) (fun _ => ?_)
     simp
     refine h15 _ _ _ (h14 _ _ _ ?_)
     simp [wrap64 (x := (n : Int) + 1) (by omega) (by omega)]
     exact h11 _ _ _ (again (m - 1) (by omega) ⟨n + 1, by omega, hd, by simp, rfl⟩)
    ·rw [if_pos he] at hd
     have hv : apV J B = .tup [.i .i64 0, .i .i64 (lockE J p.1)] := apV_err (by unfold apE; rw [if_neg (by simp [hc]), if_neg hB12, hd, if_pos he]) he
     refine ab_cond_of rfl (fun _ => ?_) (fun h => by simp [he] at h)
     refine ab_seq_k fun K19 h19 => ?_
     simp
     refine h19 _ _ _ ?_
     clear h19 K19
     simp
     refine fin_of 1 ?_
     simp [rs41, hv]
   ·have hnl : B.length ≤ n := by simp at hc1; omega
    rw [List.drop_of_length_le hnl] at hd
    have hall := errL_zero.1 hd
    have hgs : ∀ k, k < B.length → isL J.length (gl B k) = true ∧ setB (gl B k) < 2 ^ 12 ∧ (∀ x ∈ gl B k, 0 ≤ x ∧ x < (12 : Nat)) := by
     intro k hk
     have hp : B[k]? = some B[k] := List.getElem?_eq_getElem hk
     rw [gl_get hp]
     obtain ⟨-, q1, -⟩ := lockE_ok (hall _ (List.getElem_mem hk))
     obtain ⟨q2, q3⟩ := isL_set hJO q1
     exact ⟨q1, setB_lt q3, q3⟩
    simp
    refine h10 _ _ _ (h8 _ _ _ ?_)
    clear h8 h10 h11 h13 K8 K10 K11 K13
    refine ab_seq_k fun K20 h20 => ?_
    simp
    refine h20 _ _ _ ?_
    clear h20 K20
    refine ab_seq_k fun K21 h21 => ?_
    refine ab_seq_k fun K22 h22 => ?_
    simp
    refine h22 _ _ _ ?_
    clear h22 K22
    refine ab_block_k fun K23 h23 => ?_
    refine ab_loop_k (fun m env σ => ∃ n : Nat, n + m = B.length ∧ noB B n ∧ env = [(1, .ss (lls B) B.length fB), (11, .i .u16 (orB B n)), (41, .ss (lls B) B.length fB), (42, .i .i64 B.length), (43, .i .i64 n)] ∧ σ = [.row 0 [slJ J f]]) B.length ⟨0, by omega, fun i hi => by omega, rfl, rfl⟩ ?_
    rintro m env σ ⟨n, hn, hno, rfl, rfl⟩ K24 h24
    rw [ic41_1]
    refine ab_seq_k fun K25 h25 => ?_
    simp
    refine h25 _ _ _ ?_
    clear h25 K25
    refine ab_seq_k fun K26 h26 => ?_
    refine ab_cond_of rfl (fun hc1 => ?_) (fun hc1 => ?_)
    ·have hnl : n < B.length := by simp at hc1; omega
     have hp : B[n]? = some B[n] := List.getElem?_eq_getElem hnl
     have hpm : B[n] ∈ B := List.getElem_mem hnl
     have hpl := hb _ hpm
     have hgn := gl_get hp
     obtain ⟨q1, q2, q3⟩ := hgs n hnl
     have hom : orB B n &&& setB B[n].1 ≠ 0 ↔ ∃ k, k < n ∧ meetB (gl B n) (gl B k) = true := by
      have := orB_meet (B := B) (n := n) fun k hk x hx => ((hgs k (by omega)).2.2 x hx).1
      rwa [show setB (gl B n) = setB B[n].1 by rw [hgn]] at this
     have hol : orB B n < 2 ^ 12 := orB_lt fun k hk => (hgs k (by omega)).2.1
     have hos : orB B (n + 1) = orB B n ||| setB (gl B n) := rfl
     rw [hgn] at q2 q3 hos
     have hset := fun σ => FSpec.frame (σ := σ) (setOf64 (l := B[n].1) (f := B[n].2) q3 hpl) (by simp) rfl
     generalize B[n] = p at *
     have hlp := lls_get hp
     obtain ⟨g1, g2⟩ := List.getElem?_eq_some_iff.1 hlp
     have ea := and_nat (a := orB B n) (b := setB p.1) (by omega) (by omega)
     have eo := or_nat (a := orB B n) (b := setB p.1) (by omega) (by omega)
     simp
     refine h26 _ _ _ ?_
     clear h26 K26
     refine ab_seq_k fun K27 h27 => ?_
     refine ab_block_k fun K28 h28 => ?_
     refine ab_seq_k fun K29 h29 => ?_
     simp [hnl, hlp, g1, g2]
     refine h29 _ _ _ ?_
     clear h29 K29
     refine ab_seq_k fun K30 h30 => ?_
     simp
     refine callK_of (hset _) ?_
     simp
     refine h30 _ _ _ ?_
     clear h30 K30
     refine ab_seq_k fun K31 h31 => ?_
     refine ab_seq_k fun K32 h32 => ?_
     simp [ea]
     refine h32 _ _ _ ?_
     clear h32 K32
     by_cases hm : orB B n &&& setB p.1 = 0
     ·refine ab_cond_of rfl (fun h => by simp [hm] at h) (fun _ => ?_)
      simp
      refine h31 _ _ _ ?_
      simp [eo]
      refine h28 _ _ _ (h27 _ _ _ ?_)
      simp [wrap64 (x := (n : Int) + 1) (by omega) (by omega)]
      refine h24 _ _ _ (again (m - 1) (by omega) ⟨n + 1, by omega, noB_succ hno fun k hk => ?_, by simp [hos], rfl⟩)
      cases hx : meetB (gl B n) (gl B k) with
      | false => rfl
      | true => exact absurd hm (hom.2 ⟨k, hk, hx⟩)
     ·obtain ⟨k, hk, hx⟩ := hom.1 hm
      have hv : apV J B = .tup [.i .i64 0, .i .i64 11] := apV_err (by unfold apE; rw [if_neg (by simp [hc]), if_neg hB12, hd, if_neg (by simp [errL]), if_pos (bump_true hnl hk hx)]) (by decide)
      refine ab_cond_of rfl (fun _ => ?_) (fun h => by simp [hm] at h)
      refine ab_seq_k fun K33 h33 => ?_
      simp
      refine h33 _ _ _ ?_
      clear h33 K33
      simp
      refine fin_of 1 ?_
      simp [rs41, hv]
    ·have hnl : n = B.length := by simp at hc1; omega
     subst hnl
     have hv : apV J B = .tup [.i .i64 B.length, .i .i64 0] := apV_ok (by unfold apE; rw [if_neg (by simp [hc]), if_neg hB12, hd, if_neg (by simp [errL]), bump_false.2 hno]; rfl)
     simp
     refine h23 _ _ _ (h21 _ _ _ ?_)
     refine ab_seq_k fun K34 h34 => ?_
     simp
     refine h34 _ _ _ ?_
     clear h34 K34
     simp
     refine fin_of 1 ?_
     simp [rs41, hv]
theorem apart42 {J : List Lg} {f fB : Bool} {B : List (List Int × Bool)} {σ : List O} (hJ : J.length ≤ 1000000) (hl : ∀ x ∈ J, x.2.1.length ≤ 1000000) (hB : B.length ≤ 1000000) (hb : ∀ p ∈ B, p.1.length ≤ 1000000) :
  FSpec Tryz.prog 42 [jamV J f, .ss (lls B) B.length fB] σ (apV J B) σ := by
 refine FSpec.frame (σ := σ) ?_ (by simp) rfl
 have h24 := fun σ => refCheck24 (f := f) (σ := σ) hJ (fun x hx => by have := hl x hx; omega)
 refine fn42.spec0 mixed noIt_ok ?_
 rw [ic42]
 refine ab_seq_k fun K1 h1 => ?_
 simp
 refine h1 _ _ _ ?_
 clear h1 K1
 refine ab_seq_k fun K2 h2 => ?_
 refine ab_seq_k fun K3 h3 => ?_
 simp
 refine callK_of (h24 _) ?_
 simp
 refine h3 _ _ _ ?_
 clear h3 K3
 by_cases hc : checkJ J = 0
 ·refine ab_cond_of rfl (fun h => by simp [hc] at h) (fun _ => ?_)
  simp
  refine h2 _ _ _ ?_
  clear h2 K2
  refine ab_seq_k fun K4 h4 => ?_
  refine ab_seq_k fun K5 h5 => ?_
  simp
  refine h5 _ _ _ ?_
  clear h5 K5
  by_cases hB12 : 12 < B.length
  ·have hv : apV J B = .tup [.i .i64 0, .i .i64 6] := apV_err (by unfold apE; rw [if_neg (by simp [hc]), if_pos hB12]) (by decide)
   refine ab_cond_of rfl (fun _ => ?_) (fun h => by have := of_decide_eq_false h; omega)
   refine ab_seq_k fun K7 h7 => ?_
   simp
   refine h7 _ _ _ ?_
   clear h7 K7
   simp
   refine fin_of 1 ?_
   simp [rs42, hv]
  ·refine ab_cond_of rfl (fun h => by have := of_decide_eq_true h; omega) (fun _ => ?_)
   simp
   refine h4 _ _ _ ?_
   clear h4 K4
   refine ab_seq_k fun K8 h8 => ?_
   refine ab_seq_k fun K9 h9 => ?_
   simp
   refine h9 _ _ _ ?_
   clear h9 K9
   refine ab_block_k fun K10 h10 => ?_
   refine ab_loop_k (fun m env σ => ∃ n : Nat, n + m = B.length ∧ errL J B = errL J (B.drop n) ∧ env = [(1, .ss (lls B) B.length fB), (2, .p 0 0 0), (6, .i .i64 n)] ∧ σ = [.row 0 [slJ J f]]) B.length ⟨0, by omega, by simp, rfl, rfl⟩ ?_
   rintro m env σ ⟨n, hn, hd, rfl, rfl⟩ K11 h11
   rw [ic42_0]
   refine ab_seq_k fun K13 h13 => ?_
   refine ab_seq_k fun K12 h12 => ?_
   simp
   refine h12 _ _ _ ?_
   clear h12 K12
   refine ab_cond_of rfl (fun hc1 => ?_) (fun hc1 => ?_)
   ·have hnl : n < B.length := by simp at hc1; omega
    have hp : B[n]? = some B[n] := List.getElem?_eq_getElem hnl
    have hpm : B[n] ∈ B := List.getElem_mem hnl
    rw [List.drop_eq_getElem_cons hnl] at hd
    rw [errL_cons] at hd
    have hpl := hb _ hpm
    generalize B[n] = p at *
    have hlp := lls_get hp
    obtain ⟨g1, g2⟩ := List.getElem?_eq_some_iff.1 hlp
    have h39 := fun σ => check39 (f := f) (k := p.1) (fk := p.2) (σ := σ) hJ hl hpl
    simp
    refine h13 _ _ _ ?_
    clear h13 K13
    refine ab_seq_k fun K14 h14 => ?_
    refine ab_block_k fun K15 h15 => ?_
    refine ab_seq_k fun K16 h16 => ?_
    simp [abDs_consU, drU, recheck_cons, recheck_nil, rcK, IS.dst, hnl, hlp, g1, g2]
    refine callK_of (h39 _) ?_
    simp [abDs_consU, drU, recheck_cons, recheck_nil, rcK, IS.dst]
    refine h16 _ _ _ ?_
    clear h16 K16
    by_cases he : lockE J p.1 = 0
    ·rw [if_neg (by simp [he])] at hd
     refine ab_cond_of rfl (fun h => by simp [he] at h) (fun _ => ?_)
     simp
     refine h15 _ _ _ (h14 _ _ _ ?_)
     simp [wrap64 (x := (n : Int) + 1) (by omega) (by omega)]
     exact h11 _ _ _ (again (m - 1) (by omega) ⟨n + 1, by omega, hd, by simp, rfl⟩)
    ·rw [if_pos he] at hd
     have hv : apV J B = .tup [.i .i64 0, .i .i64 (lockE J p.1)] := apV_err (by unfold apE; rw [if_neg (by simp [hc]), if_neg hB12, hd, if_pos he]) he
     refine ab_cond_of rfl (fun _ => ?_) (fun h => by simp [he] at h)
     refine ab_seq_k fun K17 h17 => ?_
     simp [abDs_consU, drU, recheck_cons, recheck_nil, rcK, IS.dst, hnl, hlp, g1, g2]
     refine callK_of (h39 _) ?_
     simp [abDs_consU, drU, recheck_cons, recheck_nil, rcK, IS.dst]
     refine h17 _ _ _ ?_
     simp
     refine fin_of 1 ?_
     simp [rs42, hv]
   ·have hnl : B.length ≤ n := by simp at hc1; omega
    rw [List.drop_of_length_le hnl] at hd
    simp
    refine h10 _ _ _ (h8 _ _ _ ?_)
    clear h8 h10 h11 h13 K8 K10 K11 K13
    refine ab_seq_k fun K21 h21 => ?_
    refine ab_seq_k fun K22 h22 => ?_
    simp
    refine h22 _ _ _ ?_
    clear h22 K22
    refine ab_block_k fun K23 h23 => ?_
    refine ab_loop_k (fun m env σ => ∃ n : Nat, n + m = B.length ∧ noB B n ∧ env = [(1, .ss (lls B) B.length fB), (7, .i .i64 n)] ∧ σ = [.row 0 [slJ J f]]) B.length ⟨0, by omega, fun i hi => by omega, rfl, rfl⟩ ?_
    rintro m env σ ⟨n, hn, hno, rfl, rfl⟩ K24 h24
    rw [ic42_2]
    refine ab_seq_k fun K26 h26 => ?_
    refine ab_seq_k fun K25 h25 => ?_
    simp
    refine h25 _ _ _ ?_
    clear h25 K25
    refine ab_cond_of rfl (fun hc1 => ?_) (fun hc1 => ?_)
    ·have hnl : n < B.length := by simp at hc1; omega
     have hp : B[n]? = some B[n] := List.getElem?_eq_getElem hnl
     have hpl := hb _ (List.getElem_mem hnl)
     have hgn := gl_get hp
     generalize B[n] = p at *
     have hlp := lls_get hp
     obtain ⟨g1, g2⟩ := List.getElem?_eq_some_iff.1 hlp
     simp
     refine h26 _ _ _ ?_
     clear h26 K26
     refine ab_seq_k fun K27 h27 => ?_
     refine ab_block_k fun K28 h28 => ?_
     refine ab_seq_k fun K29 h29 => ?_
     simp
     refine h29 _ _ _ ?_
     clear h29 K29
     refine ab_block_k fun K30 h30 => ?_
     refine ab_loop_k (fun m env σ => ∃ k : Nat, k + m = n ∧ (∀ i, i < k → meetB (gl B n) (gl B i) = false) ∧ env = [(1, .ss (lls B) B.length fB), (7, .i .i64 n), (8, .i .i64 k)] ∧ σ = [.row 0 [slJ J f]]) n ⟨0, by omega, fun i hi => by omega, rfl, rfl⟩ ?_
     rintro m2 env σ ⟨k, hk, hnk, rfl, rfl⟩ K31 h31
     rw [ic42_1]
     refine ab_seq_k fun K32 h32 => ?_
     refine ab_seq_k fun K33 h33 => ?_
     simp
     refine h33 _ _ _ ?_
     clear h33 K33
     refine ab_cond_of rfl (fun hc2 => ?_) (fun hc2 => ?_)
     ·have hkn : k < n := by simp at hc2; omega
      have hkl : k < B.length := by omega
      have hp2 : B[k]? = some B[k] := List.getElem?_eq_getElem hkl
      have hpl2 := hb _ (List.getElem_mem hkl)
      have hgk := gl_get hp2
      generalize B[k] = p2 at *
      have hlp2 := lls_get hp2
      obtain ⟨g3, g4⟩ := List.getElem?_eq_some_iff.1 hlp2
      have hmt := fun σ => meet49 (A := p.1) (B := p2.1) (fa := p.2) (fb := p2.2) (σ := σ) hpl hpl2
      rw [← hgn, ← hgk] at hmt
      rw [hgn, hgk] at hmt
      simp
      refine h32 _ _ _ ?_
      clear h32 K32
      refine ab_seq_k fun K34 h34 => ?_
      refine ab_block_k fun K35 h35 => ?_
      refine ab_seq_k fun K36 h36 => ?_
      simp [abDs_consU, drU, recheck_cons, recheck_nil, rcK, IS.dst, hnl, hkl, hlp, hlp2, g1, g2, g3, g4]
      refine callK_of (hmt _) ?_
      simp [abDs_consU, drU, recheck_cons, recheck_nil, rcK, IS.dst]
      refine h36 _ _ _ ?_
      clear h36 K36
      have hme : meetB p.1 p2.1 = meetB (gl B n) (gl B k) := by rw [hgn, hgk]
      rw [hme]
      cases hx : meetB (gl B n) (gl B k) with
      | false =>
       refine ab_cond_of rfl (fun h => by cases h) (fun _ => ?_)
       simp
       refine h35 _ _ _ (h34 _ _ _ ?_)
       simp [wrap64 (x := (k : Int) + 1) (by omega) (by omega)]
       refine h31 _ _ _ (again (m2 - 1) (by omega) ⟨k + 1, by omega, fun i hi => ?_, by simp, rfl⟩)
       by_cases h : i < k
       ·exact hnk i h
       ·rw [show i = k by omega]; exact hx
      | true =>
       have hv : apV J B = .tup [.i .i64 0, .i .i64 11] := apV_err (by unfold apE; rw [if_neg (by simp [hc]), if_neg hB12, hd, if_neg (by simp [errL]), if_pos (bump_true hnl hkn hx)]) (by decide)
       refine ab_cond_of rfl (fun _ => ?_) (fun h => by cases h)
       refine ab_seq_k fun K37 h37 => ?_
       simp
       refine h37 _ _ _ ?_
       clear h37 K37
       simp
       refine fin_of 1 ?_
       simp [rs42, hv]
     ·have hkn : k = n := by simp at hc2; omega
      subst hkn
      simp
      refine h30 _ _ _ (h28 _ _ _ (h27 _ _ _ ?_))
      simp [wrap64 (x := (k : Int) + 1) (by omega) (by omega)]
      exact h24 _ _ _ (again (m - 1) (by omega) ⟨k + 1, by omega, noB_succ hno hnk, by simp, rfl⟩)
    ·have hnl : n = B.length := by simp at hc1; omega
     subst hnl
     have hv : apV J B = .tup [.i .i64 B.length, .i .i64 0] := apV_ok (by unfold apE; rw [if_neg (by simp [hc]), if_neg hB12, hd, if_neg (by simp [errL]), bump_false.2 hno]; rfl)
     simp
     refine h23 _ _ _ (h21 _ _ _ ?_)
     refine ab_seq_k fun K38 h38 => ?_
     simp
     refine h38 _ _ _ ?_
     clear h38 K38
     simp
     refine fin_of 1 ?_
     simp [rs42, hv]
 ·have hv : apV J B = .tup [.i .i64 0, .i .i64 (checkJ J)] := apV_err (by unfold apE; rw [if_pos hc]) hc
  refine ab_cond_of rfl (fun _ => ?_) (fun h => by simp [hc] at h)
  refine ab_seq_k fun K40 h40 => ?_
  simp
  refine callK_of (h24 _) ?_
  simp
  refine h40 _ _ _ ?_
  clear h40 K40
  simp
  refine fin_of 1 ?_
  simp [rs42, hv]
end Go.Ab
end
section
namespace Go.Ab
open Go Go.Proofs
def SlP (σ : List O) (v : V) (cs : List V) : Prop := (∃ f, v = .ss cs cs.length f) ∨ ∃ id ver rest, v = .s id ver 0 cs.length 1 ∧ σ[id]? = some (.row ver (cs ++ rest))
theorem Gr.slp {k n : Nat} {σ : List O} {v : V} {cs : List V} (h : Gr k 1 σ v n cs) : SlP σ v cs := by
 have hl := h.1
 rcases h.cases with ⟨rfl, rfl, rfl⟩ | ⟨id, ver, hn, hid, rfl, hs, hlt⟩
 ·exact .inl ⟨true, rfl⟩
 ·have : n = cs.length := by simpa using hl.symm
  exact .inr ⟨id, ver, [], by rw [this], by rw [List.append_nil]; exact hs⟩
theorem SlP.len {σ : List O} {v : V} {cs : List V} {C : Ct} (h : SlP σ v cs) (hC : C (.i .i64 cs.length) σ) : lenC v σ C := by
 rcases h with ⟨f, rfl⟩ | ⟨id, ver, rest, rfl, hs⟩
 ·simpa using hC
 ·simp only [lenC, lenK, liveV, hs]
  exact ⟨rfl, hC⟩
theorem SlP.ixs {σ : List O} {v : V} {cs : List V} {i : Nat} {x : V} {C : Ct} (h : SlP σ v cs) (hx : cs[i]? = some x) (hC : ∀ a, (∀ C', C' x σ → ld1C a σ C') → C a σ) : ixsC 1 v (.i .i64 i) σ C := by
 have hil := (List.getElem?_eq_some_iff.1 hx).1
 rcases h with ⟨f, rfl⟩ | ⟨id, ver, rest, rfl, hs⟩
 ·simp [hil]
  refine hC _ fun C' h' => ?_
  obtain ⟨h1, h2⟩ := List.getElem?_eq_some_iff.1 hx
  simp [hx, h2]
  exact h'
 ·obtain ⟨g1, g2⟩ := List.getElem?_eq_some_iff.1 hs
  simp [hs, g2, hil]
  refine hC _ fun C' h' => ?_
  have : (cs ++ rest)[i]? = some x := by rw [List.getElem?_append_left hil]; exact hx
  obtain ⟨h1, h2⟩ := List.getElem?_eq_some_iff.1 this
  simp [hs, g2, this]
  exact h'
theorem SlP.frz {σ : List O} {v : V} {cs : List V} (h : SlP σ v cs) (hp : pureL cs = true) : ∃ f, frz 2 0 σ v = .ss cs cs.length f := by
 rcases h with ⟨f, rfl⟩ | ⟨id, ver, rest, rfl, hs⟩
 ·exact ⟨f, frz_pure (by simpa using hp)⟩
 ·refine ⟨false, ?_⟩
  rw [Go.Ab.frz]
  simp only [V.pure, Bool.false_eq_true, if_false, Nat.not_lt_zero, hs]
  rw [if_pos ⟨trivial, by simp⟩]
  rw [List.drop_zero, Nat.mul_one, List.take_left, map_frz hp]
def SlL (σ : List O) (v : V) (cs : List V) : Prop := ∃ id ver rest, v = .s id ver 0 cs.length 1 ∧ σ[id]? = some (.row ver (cs ++ rest))
theorem SlL.slp {σ : List O} {v : V} {cs : List V} (h : SlL σ v cs) : SlP σ v cs := .inr h
theorem SlL.frz {σ : List O} {v : V} {cs : List V} (h : SlL σ v cs) (hp : pureL cs = true) : Go.Ab.frz 2 0 σ v = .ss cs cs.length false := by
 obtain ⟨id, ver, rest, rfl, hs⟩ := h
 rw [Go.Ab.frz]
 simp only [V.pure, Bool.false_eq_true, if_false, Nat.not_lt_zero, hs]
 rw [if_pos ⟨trivial, by simp⟩]
 rw [List.drop_zero, Nat.mul_one, List.take_left, map_frz hp]
theorem us_get {L : List Nat} {i s : Nat} (h : L[i]? = some s) : (us L)[i]? = some (u16V s) := by unfold us u16V; rw [List.getElem?_map, h]; rfl
theorem us_append {L M : List Nat} : us (L ++ M) = us L ++ us M := by simp [us]
theorem index109 {L : List Nat} {v : V} {fp : FuncId} {first cap : List V} {p : Nat → Bool} {σ : List O} (hv : SlP σ v (us L)) (hl : L.length ≤ 60000) (hp : ∀ x ∈ L, FSpec Tryz.prog fp (first ++ [u16V x] ++ cap) σ (.b (p x)) σ) :
  FSpec Tryz.prog 109 [v, .f (.func fp) first cap] σ (.i .i64 (match L.findIdx? p with | some i => (i : Int) | none => -1)) σ := by
 refine fn109.spec mixed noIt_ok ?_
 rw [ic109]
 refine ab_seq_k fun K1 h1 => ?_
 simp
 refine h1 _ _ _ ?_
 clear h1 K1
 refine ab_seq_k fun K2 h2 => ?_
 refine ab_seq_k fun K3 h3 => ?_
 simp
 refine hv.len ?_
 simp
 refine h3 _ _ _ ?_
 clear h3 K3
 refine ab_block_k fun K4 h4 => ?_
 refine ab_loop_k (fun m env σ' => ∃ i : Nat, i + m = L.length ∧ (∀ (j x : Nat), j < i → L[j]? = some x → p x = false) ∧ env = [(0, v), (1, .f (.func fp) first cap), (7, .i .i64 L.length), (8, .i .i64 i)] ∧ σ' = σ) L.length ⟨0, by omega, by simp, by simp, rfl⟩ ?_
 rintro m env σ' ⟨i, hi, hprev, rfl, rfl⟩ K5 h5
 rw [ic109_0]
 refine ab_seq_k fun K6 h6 => ?_
 simp
 refine h6 _ _ _ ?_
 clear h6 K6
 refine ab_seq_k fun K7 h7 => ?_
 refine ab_cond_of rfl (fun hc => ?_) (fun hc => ?_)
 ·have hlt : i < L.length := by simpa using hc
  have hget : L[i]? = some L[i] := List.getElem?_eq_getElem hlt
  have hmem := List.getElem_mem hlt
  have hu := us_get hget
  generalize hx : L[i] = x at *
  simp
  refine h7 _ _ _ ?_
  clear h7 K7
  refine ab_seq_k fun K8 h8 => ?_
  refine ab_block_k fun K9 h9 => ?_
  refine ab_seq_k fun K10 h10 => ?_
  simp
  refine h10 _ _ _ ?_
  clear h10 K10
  refine ab_seq_k fun K11 h11 => ?_
  simp
  refine hv.ixs hu fun a ha => ?_
  simp
  refine ha _ ?_
  simp
  refine callK_of (by simpa using hp x hmem) ?_
  simp
  refine h11 _ _ _ ?_
  refine ab_cond_of rfl (fun hpx => ?_) (fun hpx => ?_)
  ·refine ab_seq_k fun K12 h12 => ?_
   simp
   refine h12 _ _ _ ?_
   clear h12 K12
   have : L.findIdx? p = some i := by
    rw [List.findIdx?_eq_some_iff_getElem]
    exact ⟨hlt, by rw [hx]; exact hpx, fun j hj => by have := hprev j _ hj (List.getElem?_eq_getElem (by omega)); simpa using this⟩
   simp [this]
   exact fin_all (by simp [rs109])
  ·simp
   refine h9 _ _ _ (h8 _ _ _ ?_)
   simp [wrap64 (x := (i : Int) + 1) (by omega) (by omega)]
   refine h5 _ _ _ (again (m - 1) (by omega) ⟨i + 1, by omega, fun j y hj hy => ?_, by simp, rfl⟩)
   by_cases hji : j = i
   ·subst hji; rw [hget] at hy; cases hy; exact hpx
   ·exact hprev j y (by omega) hy
 ·have hlt : ¬ i < L.length := by simpa using hc
  simp
  refine h4 _ _ _ (h2 _ _ _ ?_)
  refine ab_seq_k fun K8 h8 => ?_
  simp
  refine h8 _ _ _ ?_
  clear h8 K8
  have : L.findIdx? p = none := by
   rw [List.findIdx?_eq_none_iff]
   intro x hx
   obtain ⟨j, hj⟩ := List.mem_iff_getElem?.1 hx
   have := (List.getElem?_eq_some_iff.1 hj).1
   exact hprev j x (by omega) hj
  simp [this]
  exact fin_all (by simp [rs109])
theorem contains110 {L : List Nat} {v : V} {fp : FuncId} {first cap : List V} {p : Nat → Bool} {σ : List O} (hv : SlP σ v (us L)) (hl : L.length ≤ 60000) (hp : ∀ x ∈ L, FSpec Tryz.prog fp (first ++ [u16V x] ++ cap) σ (.b (p x)) σ) :
  FSpec Tryz.prog 110 [v, .f (.func fp) first cap] σ (.b (L.any p)) σ := by
 refine fn110.spec mixed noIt_ok ?_
 rw [ic110]
 refine ab_seq_k fun K1 h1 => ?_
 simp
 refine h1 _ _ _ ?_
 clear h1 K1
 refine ab_seq_k fun K2 h2 => ?_
 simp
 refine callK_of (index109 hv hl hp) ?_
 simp
 refine h2 _ _ _ ?_
 clear h2 K2
 simp
 refine fin_all ?_
 simp [rs110]
 cases h : L.findIdx? p with
 | none =>
  rw [List.findIdx?_eq_none_iff] at h
  have : L.any p = false := by rw [List.any_eq_false]; intro x hx; simp [h x hx]
  simpa using this
 | some i =>
  rw [List.findIdx?_eq_some_iff_getElem] at h
  obtain ⟨h1, h2, -⟩ := h
  have : L.any p = true := by rw [List.any_eq_true]; exact ⟨_, List.getElem_mem h1, h2⟩
  simpa using this
end Go.Ab
end
section
namespace Go.Ab
open Go Go.Proofs
theorem sub_le {t s : Nat} (h : less t s = 0) : t ≤ s := by
 have : t &&& s = t := Nat.eq_of_testBit_eq fun j => by
  rw [Nat.testBit_and]
  cases hj : t.testBit j with
  | false => rfl
  | true => rw [less_zero.1 h j hj]; rfl
 rw [← this]
 exact Nat.and_le_right
theorem sub_anti {t s : Nat} (h1 : less t s = 0) (h2 : less s t = 0) : t = s := Nat.le_antisymm (sub_le h1) (sub_le h2)
theorem sub_trans {r t s : Nat} (h1 : less r t = 0) (h2 : less t s = 0) : less r s = 0 := less_zero.2 fun j hj => less_zero.1 h2 j (less_zero.1 h1 j hj)
def minLock (J : List Lg) (s : Nat) : Bool := lockB J s && !(List.range s).any fun t => lockB J t && decide (less t s = 0)
def locksTo (J : List Lg) (i : Nat) : List Nat := (List.range i).filter (minLock J)
theorem locksTo_succ {J : List Lg} {i : Nat} : locksTo J (i + 1) = if minLock J i then locksTo J i ++ [i] else locksTo J i := by
 unfold locksTo
 rw [List.range_succ, List.filter_append]
 cases h : minLock J i <;> simp [h]
theorem locksTo_len {J : List Lg} {i : Nat} : (locksTo J i).length ≤ i := by
 have := List.length_filter_le (minLock J) (List.range i)
 rw [List.length_range] at this
 exact this
theorem minLock_iff {J : List Lg} {s : Nat} : minLock J s = true ↔ lockB J s = true ∧ ∀ t, lockB J t = true → less t s = 0 → t = s := by
 unfold minLock
 rw [Bool.and_eq_true, Bool.not_eq_true', List.any_eq_false]
 refine and_congr_right fun _ => ?_
 constructor
 ·intro h t h1 h2
  have hle := sub_le h2
  by_cases he : t = s
  ·exact he
  ·have := h t (List.mem_range.2 (by omega))
   rw [h1] at this
   simp [h2] at this
 ·intro h t ht
  rw [List.mem_range] at ht
  intro h3
  rw [Bool.and_eq_true, decide_eq_true_eq] at h3
  have := h t h3.1 h3.2
  omega
theorem min_under {J : List Lg} {t : Nat} (h : lockB J t = true) : ∃ u, minLock J u = true ∧ less u t = 0 := by
 obtain ⟨u, ⟨h1, h2⟩, h3⟩ := least_ex (p := fun u => lockB J u = true ∧ less u t = 0) (m := id) t ⟨t, ⟨h, less_zero.2 fun _ hj => hj⟩, Nat.le_refl _⟩
 refine ⟨u, minLock_iff.2 ⟨h1, fun r hr hru => ?_⟩, h2⟩
 have h4 := sub_le hru
 have h5 := h3 r ⟨hr, sub_trans hru h2⟩
 simp at h5
 omega
theorem any_min {J : List Lg} {i : Nat} (hl : lockB J i = true) : (locksTo J i).any (fun x => decide (less x i = 0)) = !minLock J i := by
 rw [Bool.eq_iff_iff, List.any_eq_true, Bool.not_eq_true']
 constructor
 ·rintro ⟨x, hx, h⟩
  rw [decide_eq_true_eq] at h
  obtain ⟨hx1, hx2⟩ := List.mem_filter.1 hx
  rw [List.mem_range] at hx1
  cases hm : minLock J i with
  | false => rfl
  | true =>
   have := (minLock_iff.1 hm).2 x (minLock_iff.1 hx2).1 h
   omega
 ·intro hm
  unfold minLock at hm
  rw [hl, Bool.true_and, Bool.not_eq_false', List.any_eq_true] at hm
  obtain ⟨t, ht, h⟩ := hm
  rw [List.mem_range] at ht
  rw [Bool.and_eq_true, decide_eq_true_eq] at h
  obtain ⟨u, h1, h2⟩ := min_under h.1
  have := sub_le h2
  exact ⟨u, List.mem_filter.2 ⟨List.mem_range.2 (by omega), h1⟩, decide_eq_true (sub_trans h2 h.2)⟩
theorem locks_anti {J : List Lg} {i x y : Nat} (hx : x ∈ locksTo J i) (hy : y ∈ locksTo J i) (h : less y x = 0) : y = x :=
 (minLock_iff.1 (List.mem_filter.1 hx).2).2 y (minLock_iff.1 (List.mem_filter.1 hy).2).1 h
theorem inside112 {a b : Nat} {σ : List O} (ha : a < 65536) (hb : b < 65536) : FSpec Tryz.prog 112 [u16V a, u16V b] σ (.b (decide (less a b = 0))) σ := by
 refine FSpec.frame (σ := σ) ?_ rfl rfl
 refine fn112.spec0 mixed noIt_ok ?_
 rw [ic112]
 have e4 := andNot_nat (a := a) (b := b) ha hb
 refine ab_seq_k fun K1 h1 => ?_
 simp
 refine h1 _ _ _ ?_
 clear h1 K1
 refine ab_seq_k fun K2 h2 => ?_
 simp [u16V]
 rw [e4]
 refine h2 _ _ _ ?_
 simp
 refine fin_of 1 ?_
 simp [rs112]
theorem part111 {c a b : Nat} {τ : List O} (ha : a < 65536) (hb : b < 65536) (h1 : τ[c]? = some (.row 0 [u16V b])) : FSpec Tryz.prog 111 [u16V a, .p c 0 0] τ (.b (decide (less a b = 0))) τ := by
 refine fn111.spec mixed noIt_ok ?_
 rw [ic111]
 obtain ⟨g1, g1'⟩ := List.getElem?_eq_some_iff.1 h1
 refine ab_seq_k fun K1 h1 => ?_
 simp
 refine h1 _ _ _ ?_
 clear h1 K1
 refine ab_seq_k fun K2 h2' => ?_
 simp [h1, g1']
 refine callK_of (inside112 ha hb) ?_
 simp
 refine h2' _ _ _ ?_
 simp
 refine fin_all ?_
 simp [rs111]
theorem tight113 {L : List Nat} {v : V} {σ : List O} (hv : SlP σ v (us L)) (hl : L.length ≤ 60000) (hlt : ∀ s ∈ L, s < 65536) (hanti : ∀ (i k x y : Nat), L[i]? = some x → L[k]? = some y → less y x = 0 → k = i) :
  FSpecQ Tryz.prog 113 [v, .f (.func 112) [] []] σ (fun v' σ' => Gr σ.length 1 σ' v' L.length (us L)) := by
 refine fn113.specQ mixed noIt_ok ?_
 rw [ic113]
 refine ab_seq_k fun K1 h1 => ?_
 simp
 refine h1 _ _ _ ?_
 clear h1 K1
 refine ab_seq_k fun K2 h2 => ?_
 simp
 refine h2 _ _ _ ?_
 clear h2 K2
 refine ab_seq_k fun K3 h3 => ?_
 simp
 refine h3 _ _ _ ?_
 clear h3 K3
 refine ab_seq_k fun K4 h4 => ?_
 refine ab_seq_k fun K5 h5 => ?_
 simp
 refine hv.len ?_
 simp
 refine h5 _ _ _ ?_
 clear h5 K5
 refine ab_block_k fun K6 h6 => ?_
 refine ab_loop_k (fun m env σ' => ∃ (i : Nat) (w : V), i + m = L.length ∧ env = [(0, v), (1, .f (.func 112) [] []), (5, w), (10, v), (11, .i .i64 L.length), (12, .i .i64 i)] ∧ SlP σ' v (us L) ∧ Gr σ.length 1 σ' w i (us (L.take i)) ∧ σ.length ≤ σ'.length) L.length ⟨0, .ss [] 0 true, by omega, by simp, hv, by simpa [us] using Gr.nil, Nat.le_refl _⟩ ?_
 generalize hn0 : σ.length = n0 at *
 have hvid : ∀ id, idOf v = some id → id < n0 := by
  intro id hid
  rcases hv with ⟨f, rfl⟩ | ⟨id', ver, rest, rfl, hs⟩
  ·cases hid
  ·cases hid
   rw [← hn0]
   exact (List.getElem?_eq_some_iff.1 hs).1
 clear hv
 rintro m env σ' ⟨i, w, hi, rfl, hv, hw, hlen⟩ K7 h7
 rw [ic113_1]
 refine ab_seq_k fun K8 h8 => ?_
 simp
 refine h8 _ _ _ ?_
 clear h8 K8
 refine ab_seq_k fun K9 h9 => ?_
 refine ab_cond_of rfl (fun hc => ?_) (fun hc => ?_)
 ·have hil : i < L.length := by simpa using hc
  have hx : L[i]? = some L[i] := List.getElem?_eq_getElem hil
  have hxl := hlt _ (List.getElem_mem hil)
  have htk : us (L.take (i + 1)) = us (L.take i) ++ [u16V L[i]] := by rw [List.take_add_one, hx, us_append]; rfl
  generalize L[i] = x at *
  have hu := us_get hx
  simp
  refine h9 _ _ _ ?_
  clear h9 K9
  refine ab_seq_k fun K10 h10 => ?_
  refine ab_block_k fun K11 h11 => ?_
  refine ab_seq_k fun K12 h12 => ?_
  simp
  refine hv.ixs hu fun a ha => ?_
  simp
  refine ha _ ?_
  simp
  refine h12 _ _ _ ?_
  clear h12 K12
  refine ab_seq_k fun K13 h13 => ?_
  refine ab_seq_k fun K14 h14 => ?_
  simp
  refine hv.len ?_
  simp
  refine h14 _ _ _ ?_
  clear h14 K14
  refine ab_block_k fun K15 h15 => ?_
  refine ab_loop_k (fun m2 env τ => ∃ k : Nat, k + m2 = L.length ∧ env = [(0, v), (1, .f (.func 112) [] []), (5, w), (6, .i .i64 i), (7, u16V x), (10, v), (11, .i .i64 L.length), (12, .i .i64 i), (17, v), (18, .i .i64 L.length), (19, .i .i64 k)] ∧ τ = σ') L.length ⟨0, by omega, by simp, rfl⟩ ?_
  rintro m2 env τ ⟨k, hk, rfl, rfl⟩ K16 h16
  rw [ic113_0]
  refine ab_seq_k fun K17 h17 => ?_
  simp
  refine h17 _ _ _ ?_
  clear h17 K17
  refine ab_seq_k fun K18 h18 => ?_
  refine ab_cond_of rfl (fun hc2 => ?_) (fun hc2 => ?_)
  ·have hkl : k < L.length := by simpa using hc2
   have hy : L[k]? = some L[k] := List.getElem?_eq_getElem hkl
   have hyl := hlt _ (List.getElem_mem hkl)
   have han := hanti i k x L[k] hx hy
   generalize L[k] = y at *
   have huy := us_get hy
   simp
   refine h18 _ _ _ ?_
   clear h18 K18
   refine ab_seq_k fun K19 h19 => ?_
   refine ab_block_k fun K20 h20 => ?_
   refine ab_seq_k fun K21 h21 => ?_
   simp
   refine hv.ixs huy fun a ha => ?_
   simp
   refine ha _ ?_
   simp
   refine h21 _ _ _ ?_
   clear h21 K21
   refine ab_seq_k fun K22 h22 => ?_
   have hK22 : ∀ env, get env 0 = v → get env 1 = .f (.func 112) [] [] → get env 5 = w → get env 6 = .i .i64 i → get env 7 = u16V x → get env 10 = v → get env 11 = .i .i64 L.length → get env 12 = .i .i64 i → get env 17 = v → get env 18 = .i .i64 L.length → get env 19 = .i .i64 k → get env 32 = .b false → K22 (some 0) env τ := by
    intro env w0 w1 w5 w6 w7 w10 w11 w12 w17 w18 w19 w32
    refine h22 _ _ _ ?_
    refine ab_cond_of w32 (fun h => by cases h) (fun _ => ?_)
    simp
    refine h20 _ _ _ (h19 _ _ _ ?_)
    simp [w0, w1, w5, w6, w7, w10, w11, w12, w17, w18, w19, wrap64 (x := (k : Int) + 1) (by omega) (by omega)]
    exact h16 _ _ _ (again (m2 - 1) (by omega) ⟨k + 1, by omega, by simp, rfl⟩)
   clear h22
   by_cases hki : k = i
   ·subst hki
    simp
    exact hK22 _ rfl rfl rfl rfl rfl rfl rfl rfl rfl rfl rfl rfl
   ·have hne : ¬ (k : Int) = i := by omega
    have hl0 : ¬ less y x = 0 := fun h => hki (han h)
    simp [hne, hki]
    refine callK_of (inside112 hyl hxl) ?_
    simp [hl0]
    exact hK22 _ rfl rfl rfl rfl rfl rfl rfl rfl rfl rfl rfl rfl
  ·simp
   refine h15 _ _ _ (h13 _ _ _ ?_)
   clear h13 h15 h16 h18
   simp [u16V]
   refine appG hw (by omega) (by omega) (by omega) rfl ?_
   intro w' σ3 hw' hgr
   have hv3 : SlP σ3 v (us L) := by
    rcases hv with ⟨f, e⟩ | ⟨id, ver, rest, e, hs⟩
    ·exact .inl ⟨f, e⟩
    ·refine .inr ⟨id, ver, rest, e, ?_⟩
     have hid := hvid id (by rw [e]; rfl)
     rw [hgr.keep id (List.getElem?_eq_some_iff.1 hs).1 (fun h => by have := (hw.id_ge h).1; omega)]
     exact hs
   have hlen3 : n0 ≤ σ3.length := by
    rcases hw'.cases with ⟨h1, -, -⟩ | ⟨id, ver, -, hid, -, -, hlt'⟩
    ·omega
    ·omega
   simp
   refine h11 _ _ _ (h10 _ _ _ ?_)
   simp [wrap64 (x := (i : Int) + 1) (by omega) (by omega)]
   exact h7 _ _ _ (again (m - 1) (by omega) ⟨i + 1, w', by omega, by simp, hv3, by rw [htk]; exact hw', hlen3⟩)
 ·have hil : i = L.length := by simp at hc; omega
  subst hil
  rw [List.take_length] at hw
  simp
  refine h6 _ _ _ (h4 _ _ _ ?_)
  refine ab_seq_k fun K30 h30 => ?_
  simp
  refine h30 _ _ _ ?_
  clear h30 K30
  simp
  refine fin_Q ?_
  simp [rs113]
  exact hw
end Go.Ab
end
section
namespace Go.Ab
open Go Go.Proofs
theorem locks84 {J : List Lg} {f : Bool} {σ : List O} (hJ : JOK J) : FSpecQ Tryz.prog 84 [heapV J f] σ (fun v σ' => Gr σ.length 1 σ' v (locksTo J (2 ^ J.length)).length (us (locksTo J (2 ^ J.length)))) := by
 have hN := hJ.2.1
 have hh : (cellsOf (heapV J f)) = some [heapV J f] := rfl
 have hlk := fun σ s hs => isLock89 (J := J) (f := f) (s := s) (σ := σ) hJ hs
 have hat : ∀ σ, HeapAt J f (heapV J f) σ := fun σ => .inl ⟨_, _, rfl⟩
 have hpw := pow12 hN
 have hlb : ∀ s, s < 2 ^ J.length → s < 65536 := fun s h => by omega
 refine qf84.specQ mixed itT_ok ?_
 rw [q84]
 generalize heapV J f = H at *
 refine ab_seq_k fun K1 h1 => ?_
 simp [hh]
 refine h1 _ _ _ ?_
 clear h1 K1
 refine ab_seq_k fun K2 h2 => ?_
 simp
 refine h2 _ _ _ ?_
 clear h2 K2
 refine ab_seq_k fun K3 h3 => ?_
 refine ab_seq_k fun K4 h4 => ?_
 simp
 refine callK_of (sets91 hh) ?_
 simp
 refine h4 _ _ _ ?_
 clear h4 K4
 refine ab_block_k fun K5 h5 => ?_
 generalize hL0 : σ.length = L0 at *
 generalize hW : 2 ^ J.length = W at *
 refine ⟨W, XSet, SetAt J f (L0 + 1 + 1) H, sets_it hN hW, fun i σ2 => σ2[L0]? = some (.row 0 [H]) ∧ σ2[L0 + 1 + 1]? = some (.row 0 [H]) ∧ ∃ v, σ2[L0 + 1]? = some (.row 0 [v]) ∧ Gr (L0 + 3) 1 σ2 v (locksTo J i).length (us (locksTo J i)), fun i σ2 h => ⟨h.2.1, hat _⟩, ⟨?_, ?_, .ss [] 0 true, ?_, ?_⟩, ?_, ?_⟩
 ·rw [List.getElem?_append_right (by omega), hL0, Nat.sub_self]; rfl
 ·rw [List.getElem?_append_right (by omega), hL0, show L0 + 1 + 1 - L0 = 2 by omega]; rfl
 ·rw [List.getElem?_append_right (by omega), hL0, show L0 + 1 - L0 = 1 by omega]; rfl
 ·simpa [locksTo, us] using Gr.nil
 ·rintro i x σ2 g hi ⟨rfl, rfl⟩ ⟨q0, q2, v, q1, hv⟩
  refine ⟨rfl, ?_⟩
  generalize hKR : roundK _ _ _ = KR
  rw [List.append_nil]
  simp
  rw [q84_0]
  have hi16 := hlb i hi
  obtain ⟨hq2, -⟩ := List.getElem?_eq_some_iff.1 q2
  have hc0 : (σ2 ++ [O.row 0 [V.i .u16 i]])[σ2.length]? = some (O.row 0 [V.i .u16 i]) := by simp
  replace q0 := app_get (g := [O.row 0 [V.i .u16 i]]) q0
  replace q1 := app_get (g := [O.row 0 [V.i .u16 i]]) q1
  replace q2 := app_get (g := [O.row 0 [V.i .u16 i]]) q2
  replace hv := hv.app (g := [O.row 0 [V.i .u16 i]])
  have hcl : L0 + 3 ≤ σ2.length := by omega
  have hdone : ∀ σ3 v, σ3[L0]? = some (.row 0 [H]) → σ3[L0 + 1 + 1]? = some (.row 0 [H]) → σ3[L0 + 1]? = some (.row 0 [v]) → Gr (L0 + 3) 1 σ3 v (locksTo J (i + 1)).length (us (locksTo J (i + 1))) → ∀ env, KR (some 0) env σ3 := by
   intro σ3 v a1 a2 a3 a4 env
   rw [← hKR]
   exact ⟨rfl, .inl ⟨a1, a2, v, a3, a4⟩⟩
  clear hKR hq2
  have hU : σ2.length < (σ2 ++ [O.row 0 [V.i .u16 i]]).length := by simp
  generalize σ2 ++ [O.row 0 [V.i .u16 i]] = U at *
  generalize σ2.length = c at *
  obtain ⟨hq0, q0'⟩ := List.getElem?_eq_some_iff.1 q0
  obtain ⟨hq1, q1'⟩ := List.getElem?_eq_some_iff.1 q1
  obtain ⟨hqc, qc'⟩ := List.getElem?_eq_some_iff.1 hc0
  have hks := locksTo_succ (J := J) (i := i)
  have hkl := locksTo_len (J := J) (i := i)
  have hlt : ∀ x ∈ locksTo J i, x < 65536 := fun x hx => by
   have := List.mem_range.1 (List.mem_filter.1 hx).1
   omega
  have h110 := contains110 (first := []) (fp := 111) (cap := [V.p c 0 0]) (p := fun x => decide (less x i = 0)) hv.slp (by omega) (fun x hx => part111 (hlt x hx) hi16 hc0)
  refine ab_block_k fun K16 h16 => ?_
  refine ab_seq_k fun K18 h18 => ?_
  have hK18 : ∀ env cc, get env 3 = .p (L0 + 1) 0 0 → get env 4 = .p c 0 0 → get env 20 = .b cc → cc = minLock J i → K18 (some 0) env U := by
   intro env cc w3 w4 w20 hcv
   refine h18 _ _ _ ?_
   clear h18
   cases cc with
   | false =>
    rw [← hcv, if_neg (by simp)] at hks
    refine ab_cond_of w20 (fun h => by cases h) (fun _ => ?_)
    simp
    refine h16 _ _ _ ?_
    exact hdone U v q0 q2 q1 (by rw [hks]; exact hv) _
   | true =>
    rw [← hcv, if_pos rfl] at hks
    refine ab_cond_of w20 (fun _ => ?_) (fun h => by cases h)
    simp [w3, w4, q1, q1', hc0, qc']
    refine appG hv (by omega) (by omega) (by omega) rfl ?_
    intro v' σ' hv' hgr
    have hbid : ∀ j, j < L0 + 3 → idOf v ≠ some j := fun j hj e => by have := (hv.id_ge e).1; omega
    have r0 := hgr.get (hbid L0 (by omega)) q0
    have r1 := hgr.get (hbid (L0 + 1) (by omega)) q1
    have r2 := hgr.get (hbid (L0 + 1 + 1) (by omega)) q2
    obtain ⟨hr1, r1'⟩ := List.getElem?_eq_some_iff.1 r1
    simp [w3, w4, r1, r1', hv'.one]
    refine h16 _ _ _ ?_
    refine hdone _ v' ?_ ?_ (List.getElem?_set_self hr1) ?_ _
    ·rw [List.getElem?_set_ne (by omega)]; exact r0
    ·rw [List.getElem?_set_ne (by omega)]; exact r2
    ·have h1 := hv'.setlt (i := L0 + 1) (o := O.row 0 [v']) (by omega)
     rw [hks]
     simpa [us] using h1
  clear h18 hdone
  by_cases hi0 : i = 0
  ·have hm : minLock J i = false := by simp [minLock, lockB, hi0]
   simp [hc0, qc', hi0]
   exact hK18 _ _ rfl rfl rfl hm.symm
  ·cases hl : lockB J i with
   | false =>
    have hm : minLock J i = false := by simp [minLock, hl]
    simp [hc0, qc', hi0, q0, q0']
    refine callK_of (hlk _ _ hi) ?_
    simp [hl]
    exact hK18 _ _ rfl rfl rfl hm.symm
   | true =>
    rw [any_min hl] at h110
    simp [hc0, qc', hi0, q0, q0']
    refine callK_of (hlk _ _ hi) ?_
    simp [hl, q1, q1']
    refine callK_of h110 ?_
    simp
    exact hK18 _ _ rfl rfl rfl rfl
 ·rintro σ2 ⟨q0, q2, v, q1, hv⟩
  refine h5 _ _ _ (h3 _ _ _ ?_)
  obtain ⟨hq1, q1'⟩ := List.getElem?_eq_some_iff.1 q1
  refine ab_seq_k fun K30 h30 => ?_
  simp [q1, q1']
  refine callR_of (tight113 hv.slp ?_ ?_ ?_) ?_
  ·have := locksTo_len (J := J) (i := W); omega
  ·intro s hs
   have := List.mem_range.1 (List.mem_filter.1 hs).1
   omega
  ·intro i k x y hx hy h
   have he := locks_anti (List.mem_of_getElem? hx) (List.mem_of_getElem? hy) h
   subst he
   have hnd : (locksTo J W).Nodup := List.Nodup.sublist List.filter_sublist List.nodup_range
   exact (List.getElem?_inj (List.getElem?_eq_some_iff.1 hy).1 hnd).1 (hy.trans hx.symm)
  ·intro v' σ' hv'
   simp
   refine h30 _ _ _ ?_
   simp
   refine fin_Q ?_
   simp [rs84]
   exact hv'.mono (by omega)
theorem locks84F {J : List Lg} {f : Bool} {σ : List O} (hJ : JOK J) : FSpec Tryz.prog 84 [heapV J f] σ (.ss (us (locksTo J (2 ^ J.length))) (locksTo J (2 ^ J.length)).length ((locksTo J (2 ^ J.length)).length == 0)) σ := by
 refine FSpec.frame (σ := σ) ?_ (by simp) (by simp)
 exact (locks84 hJ).freeze fun v σ' h => ⟨2, frz_G h (by simp)⟩
end Go.Ab
end
section
namespace Go.Ab
open Go Go.Proofs
def apartS : List Nat → Nat → List Nat
 | [], _ => []
 | x :: r, m => if x &&& m ≠ 0 then apartS r m else if (apartS r (m ||| x)).length + 1 > (apartS r m).length then x :: apartS r (m ||| x) else apartS r m
theorem apartS_len : ∀ {L : List Nat} {m : Nat}, (apartS L m).length ≤ L.length
 | [], _ => Nat.le_refl _
 | x :: r, m => by
  have h1 := apartS_len (L := r) (m := m)
  have h2 := apartS_len (L := r) (m := m ||| x)
  simp only [apartS]
  split
  ·simp; omega
  ·split <;> simp <;> omega
theorem apart90 : ∀ {L : List Nat} {m : Nat} {f : Bool} {σ : List O}, (∀ x ∈ L, x < 65536) → L.length ≤ 60000 → m < 65536 → FSpec Tryz.prog 90 [.ss (us L) L.length f, .i .u16 m] σ (.ss (us (apartS L m)) (apartS L m).length (decide ((apartS L m).length ≤ 1))) σ
 | [], m, f, σ, hL, hl, hm => by
  refine FSpec.frame (σ := σ) ?_ (by simp) (by simp)
  refine fn90.spec0 mixed noIt_ok ?_
  rw [ic90]
  refine ab_seq_k fun K1 h1 => ?_
  simp
  refine h1 _ _ _ ?_
  clear h1 K1
  refine ab_seq_k fun K2 h2 => ?_
  refine ab_seq_k fun K3 h3 => ?_
  simp
  refine h3 _ _ _ ?_
  clear h3 K3
  refine ab_cond_of rfl (fun _ => ?_) (fun h => by cases h)
  refine ab_seq_k fun K4 h4 => ?_
  simp
  refine h4 _ _ _ ?_
  clear h4 K4
  simp
  refine fin_of 2 ?_
  simp [rs90, apartS, us]
 | x :: r, m, f, σ, hL, hl, hm => by
  have hx := hL x (List.mem_cons_self ..)
  have hr := fun y hy => hL y (List.mem_cons_of_mem x hy)
  have hrl : r.length ≤ 60000 := by simp at hl; omega
  have hor : m ||| x < 65536 := Nat.or_lt_two_pow (n := 16) hm hx
  have i1 := fun f σ => apart90 (L := r) (m := m) (f := f) (σ := σ) hr hrl hm
  have i2 := fun f σ => apart90 (L := r) (m := m ||| x) (f := f) (σ := σ) hr hrl hor
  have l1 := apartS_len (L := r) (m := m)
  have l2 := apartS_len (L := r) (m := m ||| x)
  have ea := and_nat hx hm
  have eo := or_nat hm hx
  have huc : us (x :: r) = .i .u16 x :: us r := rfl
  rw [huc]
  have htk : (us r).take r.length = us r := List.take_of_length_le (by simp)
  have hap : apartS (x :: r) m = if x &&& m ≠ 0 then apartS r m else if (apartS r (m ||| x)).length + 1 > (apartS r m).length then x :: apartS r (m ||| x) else apartS r m := rfl
  refine FSpec.frame (σ := σ) ?_ (by simp) (by simp)
  refine fn90.spec0 mixed noIt_ok ?_
  rw [ic90]
  generalize apartS r m = A at *
  generalize apartS r (m ||| x) = B at *
  refine ab_seq_k fun K1 h1 => ?_
  simp
  refine h1 _ _ _ ?_
  clear h1 K1
  refine ab_seq_k fun K2 h2 => ?_
  refine ab_seq_k fun K3 h3 => ?_
  simp
  refine h3 _ _ _ ?_
  clear h3 K3
  refine ab_cond_of rfl (fun h => by have := of_decide_eq_true h; omega) (fun _ => ?_)
  simp
  refine h2 _ _ _ ?_
  clear h2 K2
  refine ab_seq_k fun K4 h4 => ?_
  simp [htk]
  refine ⟨by omega, callK_of (i1 _ _) ?_⟩
  simp
  refine h4 _ _ _ ?_
  clear h4 K4
  have hxr : (.i .u16 x :: us r : List V)[0]? = some (.i .u16 x) := rfl
  refine ab_seq_k fun K5 h5 => ?_
  refine ab_seq_k fun K6 h6 => ?_
  simp
  rw [ea]
  refine h6 _ _ _ ?_
  clear h6 K6
  by_cases hm0 : x &&& m = 0
  ·rw [if_neg (fun h => h hm0)] at hap
   refine ab_cond_of rfl (fun h => by simp [hm0] at h) (fun _ => ?_)
   simp
   refine h5 _ _ _ ?_
   clear h5 K5
   refine ab_seq_k fun K7 h7 => ?_
   refine ab_seq_k fun K8 h8 => ?_
   simp [abDs_consU, drU, recheck_cons, recheck_nil, rcK, IS.dst, htk]
   refine ⟨by omega, ?_⟩
   rw [eo]
   refine callK_of (i2 _ _) ?_
   simp [abDs_consU, drU, recheck_cons, recheck_nil, rcK, IS.dst]
   refine h8 _ _ _ ?_
   clear h8 K8
   refine ab_seq_k fun K9 h9 => ?_
   simp [wrap64 (x := (B.length : Int) + 1) (by omega) (by omega)]
   refine h9 _ _ _ ?_
   clear h9 K9
   by_cases hlen : A.length < B.length + 1
   ·rw [if_pos hlen] at hap
    refine ab_cond_of rfl (fun _ => ?_) (fun h => by have := of_decide_eq_false h; omega)
    refine ab_seq_k fun K10 h10 => ?_
    simp
    refine ⟨by omega, ?_⟩
    by_cases hB : B = []
    ·subst hB
     rw [if_pos rfl]
     refine h10 _ _ _ ?_
     simp
     refine fin_of 2 ?_
     rw [hap]
     simp [rs90, us, u16V]
    ·have hBl : 0 < B.length := List.length_pos_iff.2 hB
     have hg : Gr 0 1 [O.row 0 (V.i .u16 x :: us B)] (V.s 0 0 0 (1 + B.length) 1) (1 + B.length) (V.i .u16 x :: us B) := ⟨by simp [us]; omega, .inr ⟨by omega, 0, 0, Nat.le_refl _, rfl, rfl⟩⟩
     rw [if_neg hB]
     refine h10 _ _ _ ?_
     simp
     refine fin_of 2 ?_
     rw [hap]
     simp [-frz, rs90]
     rw [frz_G hg (by simp)]
     have hz : (1 + B.length == 0) = false := beq_eq_false_iff_ne.2 (by omega)
     simp [us, u16V, hB, hz, Nat.add_comm]
   ·rw [if_neg hlen] at hap
    refine ab_cond_of rfl (fun h => by have := of_decide_eq_true h; omega) (fun _ => ?_)
    simp
    refine h7 _ _ _ ?_
    refine ab_seq_k fun K20 h20 => ?_
    simp
    refine h20 _ _ _ ?_
    clear h20 K20
    simp
    refine fin_of 2 ?_
    rw [hap]
    simp [rs90]
  ·rw [if_pos hm0] at hap
   refine ab_cond_of rfl (fun _ => ?_) (fun h => by simp [hm0] at h)
   refine ab_seq_k fun K21 h21 => ?_
   simp
   refine h21 _ _ _ ?_
   clear h21 K21
   simp
   refine fin_of 2 ?_
   rw [hap]
   simp [rs90]
end Go.Ab
end
section
namespace Go.Ab
open Go Go.Proofs
theorem apartS_sub : ∀ {L : List Nat} {m s : Nat}, s ∈ apartS L m → s ∈ L
 | [], _, _, h => h
 | x :: r, m, s, h => by
  simp only [apartS] at h
  split at h
  ·exact List.mem_cons_of_mem x (apartS_sub h)
  ·split at h
   ·rcases List.mem_cons.1 h with rfl | h
    ·exact List.mem_cons_self ..
    ·exact List.mem_cons_of_mem x (apartS_sub h)
   ·exact List.mem_cons_of_mem x (apartS_sub h)
def apartV (J : List Lg) : V := if checkJ J ≠ 0 then .tup [.ss [] 0 true, .i .i64 (checkJ J)] else .tup [.ss (lv (lexS (apartS (locksTo J (2 ^ J.length)) 0))) (apartS (locksTo J (2 ^ J.length)) 0).length ((apartS (locksTo J (2 ^ J.length)) 0).length == 0), .i .i64 0]
theorem apartV_pure {J} : (apartV J).pure = true := by
 unfold apartV
 split
 ·rfl
 ·simp
theorem apart43 {J : List Lg} {f : Bool} {σ : List O} (hJ : J.length ≤ 1000000) (hl : ∀ x ∈ J, x.2.1.length ≤ 1000000) : FSpec Tryz.prog 43 [jamV J f] σ (apartV J) σ := by
 refine FSpec.frame (σ := σ) ?_ (by simp) apartV_pure
 have h62 := fun σ => open62 (f := f) (l := []) (fl := true) (σ := σ) hJ hl (by simp)
 refine fn43.spec0 mixed noIt_ok ?_
 rw [ic43]
 refine ab_seq_k fun K1 h1 => ?_
 simp
 refine h1 _ _ _ ?_
 clear h1 K1
 refine ab_seq_k fun K2 h2 => ?_
 simp
 refine callK_of (h62 _) ?_
 rcases open_nil (f := f) hl with ⟨hc, ho⟩ | ⟨hc, hJO, ho⟩
 ·have hv : apartV J = .tup [.ss [] 0 true, .i .i64 (checkJ J)] := by unfold apartV; rw [if_pos hc]
  rw [ho]
  simp
  refine h2 _ _ _ ?_
  clear h2 K2
  refine ab_seq_k fun K3 h3 => ?_
  refine ab_seq_k fun K5 h5 => ?_
  simp
  refine h5 _ _ _ ?_
  clear h5 K5
  refine ab_cond_of rfl (fun _ => ?_) (fun h => by simp at h; omega)
  refine ab_seq_k fun K6 h6 => ?_
  simp
  refine h6 _ _ _ ?_
  clear h6 K6
  simp
  refine fin_of 3 ?_
  simp [rs43, hv]
 ·have hN := hJO.2.1
  have hpw := pow12 hN
  have hk := fun σ => locks84F (J := J) (f := f) (σ := σ) hJO
  have hkl := locksTo_len (J := J) (i := 2 ^ J.length)
  have hmem : ∀ s ∈ locksTo J (2 ^ J.length), s < 2 ^ 12 := fun s hs => by
   have := (List.mem_filter.1 hs).1
   rw [List.mem_range] at this
   omega
  have hlt : ∀ s ∈ locksTo J (2 ^ J.length), s < 65536 := fun s hs => by
   have := List.mem_range.1 (List.mem_filter.1 hs).1
   omega
  have hsl := apartS_len (L := locksTo J (2 ^ J.length)) (m := 0)
  have hmem2 : ∀ s ∈ apartS (locksTo J (2 ^ J.length)) 0, s < 2 ^ 12 := fun s hs => hmem s (apartS_sub hs)
  have h90 := fun f σ => apart90 (L := locksTo J (2 ^ J.length)) (m := 0) (f := f) (σ := σ) hlt (by omega) (by omega)
  have hv : apartV J = .tup [.ss (lv (lexS (apartS (locksTo J (2 ^ J.length)) 0))) (apartS (locksTo J (2 ^ J.length)) 0).length ((apartS (locksTo J (2 ^ J.length)) 0).length == 0), .i .i64 0] := by unfold apartV; rw [if_neg (by simp [hc])]
  have hls := fun f σ => lists76 (L := apartS (locksTo J (2 ^ J.length)) 0) (f := f) (σ := σ) hmem2 (by omega)
  generalize apartS (locksTo J (2 ^ J.length)) 0 = R at *
  generalize locksTo J (2 ^ J.length) = L at *
  rw [ho]
  simp
  refine h2 _ _ _ ?_
  clear h2 K2
  refine ab_seq_k fun K3 h3 => ?_
  refine ab_seq_k fun K5 h5 => ?_
  simp
  refine h5 _ _ _ ?_
  clear h5 K5
  refine ab_cond_of rfl (fun h => by simp at h) (fun _ => ?_)
  simp
  refine h3 _ _ _ ?_
  clear h3 K3
  refine ab_seq_k fun K7 h7 => ?_
  simp
  refine callK_of (hk _) ?_
  simp
  refine callK_of (h90 _ _) ?_
  simp
  refine callK_of (hls _ _) ?_
  simp
  refine h7 _ _ _ ?_
  simp
  refine fin_of 3 ?_
  simp [rs43, hv]
end Go.Ab
end
section
namespace Go.Ab
open Go Go.Proofs
def mostS : List Nat → Nat → Nat
 | [], _ => 0
 | x :: r, m => if x &&& m ≠ 0 then mostS r m else max (mostS r m) (1 + mostS r (m ||| x))
theorem apartS_most : ∀ {L : List Nat} {m : Nat}, (apartS L m).length = mostS L m
 | [], m => rfl
 | x :: r, m => by
  have h1 := apartS_most (L := r) (m := m)
  have h2 := apartS_most (L := r) (m := m ||| x)
  simp only [apartS, mostS]
  split
  ·exact h1
  ·split <;> (try simp) <;> omega
theorem and_or {a b c : Nat} : a &&& (b ||| c) = 0 ↔ a &&& b = 0 ∧ a &&& c = 0 := by
 constructor
 ·intro h
  constructor
  ·apply Nat.eq_of_testBit_eq
   intro j
   have := congrArg (fun z => z.testBit j) h
   simp only [Nat.testBit_and, Nat.testBit_or, Nat.zero_testBit] at this ⊢
   revert this
   cases a.testBit j <;> cases b.testBit j <;> cases c.testBit j <;> simp
  ·apply Nat.eq_of_testBit_eq
   intro j
   have := congrArg (fun z => z.testBit j) h
   simp only [Nat.testBit_and, Nat.testBit_or, Nat.zero_testBit] at this ⊢
   revert this
   cases a.testBit j <;> cases b.testBit j <;> cases c.testBit j <;> simp
 ·rintro ⟨h1, h2⟩
  apply Nat.eq_of_testBit_eq
  intro j
  have h3 := congrArg (fun z => z.testBit j) h1
  have h4 := congrArg (fun z => z.testBit j) h2
  simp only [Nat.testBit_and, Nat.testBit_or, Nat.zero_testBit] at h3 h4 ⊢
  revert h3 h4
  cases a.testBit j <;> cases b.testBit j <;> cases c.testBit j <;> simp
theorem mostS_swap {x y m : Nat} {r : List Nat} : mostS (x :: y :: r) m = mostS (y :: x :: r) m := by
 simp only [mostS]
 have e : m ||| x ||| y = m ||| y ||| x := by rw [Nat.or_assoc, Nat.or_comm x y, ← Nat.or_assoc]
 have hc : x &&& y = y &&& x := Nat.and_comm ..
 rw [e]
 generalize mostS r m = a
 generalize mostS r (m ||| x) = b
 generalize mostS r (m ||| y) = c
 generalize mostS r (m ||| y ||| x) = d
 simp only [ne_eq, and_or, hc]
 by_cases h1 : x &&& m = 0 <;> by_cases h2 : y &&& m = 0 <;> by_cases h3 : y &&& x = 0 <;> simp [h1, h2, h3] <;> omega
theorem mostS_perm {L M : List Nat} (h : L.Perm M) : ∀ m, mostS L m = mostS M m := by
 induction h with
 | nil => intro m; rfl
 | cons x _ ih => intro m; simp only [mostS, ih]
 | swap x y l => intro m; exact mostS_swap
 | trans _ _ ih1 ih2 => intro m; rw [ih1, ih2]
theorem setB_app {T S : List Int} (hT : ∀ x ∈ T, 0 ≤ x) (hS : ∀ x ∈ S, 0 ≤ x) : setB (T ++ S) = setB T ||| setB S := by
 apply Nat.eq_of_testBit_eq
 intro j
 rw [Bool.eq_iff_iff, Nat.testBit_or, Bool.or_eq_true, setB_bit hT, setB_bit hS, setB_bit (by
  intro x hx
  rcases List.mem_append.1 hx with h | h
  ·exact hT x h
  ·exact hS x h), List.mem_append]
theorem bl_nn {s k : Nat} : ∀ x ∈ bl s k, 0 ≤ x := fun x hx => by
 obtain ⟨j, -, rfl, -⟩ := bl_mem.1 hx
 omega
theorem most44 {L : List Nat} {f : Bool} (hL : ∀ s ∈ L, s < 2 ^ 12 ∧ s ≠ 0) (hl : L.length ≤ 60000) : ∀ (d i : Nat) (T : List Int) (ft : Bool) (σ : List O), i + d = L.length → (∀ x ∈ T, 0 ≤ x) → T.length ≤ 12 * i →
  FSpec Tryz.prog 44 [.ss (lv L) L.length f, .i .i64 i, sl T ft] σ (.i .i64 (mostS (L.drop i) (setB T))) σ
 | 0, i, T, ft, σ, hi, hT, hTl => by
  refine FSpec.frame (σ := σ) ?_ (by simp) rfl
  have hd : L.drop i = [] := List.drop_of_length_le (by omega)
  rw [hd]
  have hi' : i = L.length := by omega
  subst hi'
  refine fn44.spec0 mixed noIt_ok ?_
  rw [ic44]
  refine ab_seq_k fun K1 h1 => ?_
  simp
  refine h1 _ _ _ ?_
  clear h1 K1
  refine ab_seq_k fun K2 h2 => ?_
  refine ab_seq_k fun K3 h3 => ?_
  simp
  refine h3 _ _ _ ?_
  clear h3 K3
  refine ab_cond_of rfl (fun _ => ?_) (fun h => by simp at h)
  refine ab_seq_k fun K4 h4 => ?_
  simp
  refine h4 _ _ _ ?_
  clear h4 K4
  simp
  refine fin_of 1 ?_
  simp [rs44, mostS]
 | d + 1, i, T, ft, σ, hi, hT, hTl => by
  refine FSpec.frame (σ := σ) ?_ (by simp) rfl
  have hil : i < L.length := by omega
  have hx : L[i]? = some L[i] := List.getElem?_eq_getElem hil
  have hd := List.drop_eq_getElem_cons hil
  obtain ⟨hxl, hx0⟩ := hL _ (List.getElem_mem hil)
  generalize L[i] = x at *
  rw [hd]
  have hxb := bl_len (s := x) (k := 12)
  have hsx := setB_bl hxl
  have hbx : bl x 12 ≠ [] := fun h => hx0 ((bl_nil hxl).1 h)
  have i1 := fun σ => most44 hL hl (f := f) d (i + 1) T ft σ (by omega) hT (by omega)
  have i2 := fun ft σ => most44 hL hl (f := f) d (i + 1) (T ++ bl x 12) ft σ (by omega) (fun y hy => by
   rcases List.mem_append.1 hy with h | h
   ·exact hT y h
   ·exact bl_nn y h) (by simp; omega)
  rw [setB_app hT bl_nn, hsx] at i2
  have h49 := fun σ => meet49 (A := bl x 12) (B := T) (fa := (bl x 12).length == 0) (fb := ft) (σ := σ) (by omega) (by omega)
  have hmt : meetB (bl x 12) T = true ↔ x &&& setB T ≠ 0 := by
   have := meet_set (A := bl x 12) (B := T) bl_nn hT
   rwa [hsx] at this
  have hlen : ((i : Int) + 1 = ((i + 1 : Nat) : Int)) := by omega
  have hlx := lv_get hx
  have hlv : listV x = sl (bl x 12) ((bl x 12).length == 0) := rfl
  rw [hlv] at hlx
  obtain ⟨g1, g2⟩ := List.getElem?_eq_some_iff.1 hlx
  have hmv : mostS (x :: L.drop (i + 1)) (setB T) = if x &&& setB T ≠ 0 then mostS (L.drop (i + 1)) (setB T) else max (mostS (L.drop (i + 1)) (setB T)) (1 + mostS (L.drop (i + 1)) (setB T ||| x)) := rfl
  rw [hmv]
  have hma : ∀ (D : List Nat) m, mostS D m ≤ D.length := by
   intro D
   induction D with
   | nil => intro m; exact Nat.le_refl _
   | cons y r ih =>
    intro m
    have := ih m
    have := ih (m ||| y)
    simp only [mostS]
    split <;> simp <;> omega
  have ha := hma (L.drop (i + 1)) (setB T)
  have hb := hma (L.drop (i + 1)) (setB T ||| x)
  rw [List.length_drop] at ha hb
  clear hma hmv
  have h44 : ∀ σ v, Gr 0 1 σ v (T ++ bl x 12).length (ints (T ++ bl x 12)) → FSpec Tryz.prog 44 [.ss (lv L) L.length f, .i .i64 ((i : Int) + 1), v] σ (.i .i64 (mostS (L.drop (i + 1)) (setB T ||| x))) σ := by
   intro σ v hv
   refine FSpec.frozen 2 ?_ rfl
   simp only [List.map_cons, List.map_nil]
   rw [frz_pure (by simp), frz_pure (by rfl), frz_G hv (by simp), hlen]
   exact i2 _ _
  clear i2
  refine fn44.spec0 mixed noIt_ok ?_
  rw [ic44]
  generalize mostS (L.drop (i + 1)) (setB T) = a at *
  generalize mostS (L.drop (i + 1)) (setB T ||| x) = b at *
  refine ab_seq_k fun K1 h1 => ?_
  simp
  refine h1 _ _ _ ?_
  clear h1 K1
  refine ab_seq_k fun K2 h2 => ?_
  refine ab_seq_k fun K3 h3 => ?_
  simp
  refine h3 _ _ _ ?_
  clear h3 K3
  refine ab_cond_of rfl (fun h => by simp at h; omega) (fun _ => ?_)
  simp
  refine h2 _ _ _ ?_
  clear h2 K2
  refine ab_seq_k fun K4 h4 => ?_
  simp [wrap64 (x := (i : Int) + 1) (by omega) (by omega)]
  rw [hlen]
  refine callK_of (i1 _) ?_
  simp
  refine h4 _ _ _ ?_
  clear h4 K4
  refine ab_seq_k fun K5 h5 => ?_
  refine ab_seq_k fun K6 h6 => ?_
  simp [hil, hlx, g1, g2]
  refine callK_of (h49 _) ?_
  simp
  refine h6 _ _ _ ?_
  clear h6 K6
  cases hm : meetB (bl x 12) T with
  | true =>
   have hx' := hmt.1 hm
   rw [if_pos hx']
   refine ab_cond_of rfl (fun _ => ?_) (fun h => by cases h)
   refine ab_seq_k fun K7 h7 => ?_
   simp
   refine h7 _ _ _ ?_
   clear h7 K7
   simp
   refine fin_of 1 ?_
   simp [rs44]
  | false =>
   have hx' : x &&& setB T = 0 := by
    false_or_by_contra
    rename_i h
    rw [hmt.2 h] at hm
    cases hm
   rw [if_neg (fun h => h hx')]
   refine ab_cond_of rfl (fun h => by cases h) (fun _ => ?_)
   simp
   refine h5 _ _ _ ?_
   clear h5 K5
   refine ab_seq_k fun K8 h8 => ?_
   simp only [ab_alt_one]
   simp [abDs_consU, drU, recheck_cons, recheck_nil, rcK, IS.dst, hil, hlx, g1, g2, wrap64 (x := (i : Int) + 1) (by omega) (by omega)]
   have hbl0 : 0 < (bl x 12).length := List.length_pos_iff.2 hbx
   by_cases hT0 : T = []
   ·subst hT0
    rw [if_pos rfl, if_neg hbx]
    refine ⟨by simp, by omega, callK_of (h44 _ _ ⟨by simp, .inr ⟨by simp; omega, 0, 0, Nat.le_refl _, by simp, by simp⟩⟩) ?_⟩
    simp [abDs_consU, drU, recheck_cons, recheck_nil, rcK, IS.dst, hil, hlx, g1, g2, wrap64 (x := (i : Int) + 1) (by omega) (by omega), wrap64 (x := (1 : Int) + b) (by omega) (by omega)]
    refine h8 _ _ _ ?_
    simp
    refine fin_of 1 ?_
    simp [rs44, hx']
    omega
   ·have hT1 : 0 < T.length := List.length_pos_iff.2 hT0
    rw [if_neg hT0]
    refine ⟨by omega, ?_⟩
    simp [abDs_consU, drU, recheck_cons, recheck_nil, rcK, IS.dst, hil, hlx, g1, g2, hbx, wrap64 (x := (i : Int) + 1) (by omega) (by omega), wrap64 (x := (1 : Int) + b) (by omega) (by omega)]
    refine ⟨by omega, callK_of (h44 _ _ ⟨by simp, .inr ⟨by rw [List.length_append]; omega, 0, 1, Nat.le_refl _, by simp, by simp [ints]⟩⟩) ?_⟩
    simp [abDs_consU, drU, recheck_cons, recheck_nil, rcK, IS.dst, hil, hlx, g1, g2, wrap64 (x := (i : Int) + 1) (by omega) (by omega), wrap64 (x := (1 : Int) + b) (by omega) (by omega)]
    refine h8 _ _ _ ?_
    simp
    refine fin_of 1 ?_
    simp [rs44, hx']
    omega
end Go.Ab
end
section
namespace Go.Ab
open Go Go.Proofs
theorem apartS_dis : ∀ {L : List Nat} {m : Nat}, (apartS L m).Pairwise (fun a b => a &&& b = 0) ∧ ∀ s ∈ apartS L m, s &&& m = 0
 | [], _ => ⟨List.Pairwise.nil, fun s hs => nomatch hs⟩
 | x :: r, m => by
  have h1 := apartS_dis (L := r) (m := m)
  have h2 := apartS_dis (L := r) (m := m ||| x)
  simp only [apartS]
  by_cases hx : x &&& m = 0
  ·rw [if_neg (fun h => h hx)]
   split
   ·refine ⟨List.pairwise_cons.2 ⟨fun s hs => ?_, h2.1⟩, fun s hs => ?_⟩
    ·rw [Nat.and_comm]; exact (and_or.1 (h2.2 s hs)).2
    ·rcases List.mem_cons.1 hs with rfl | hs
     ·exact hx
     ·exact (and_or.1 (h2.2 s hs)).1
   ·exact h1
  ·rw [if_pos hx]
   exact h1
theorem dis_count {N : Nat} : ∀ {R : List Nat} {m : Nat}, R.Pairwise (fun a b => a &&& b = 0) → (∀ s ∈ R, s < 2 ^ N ∧ s ≠ 0 ∧ s &&& m = 0) → R.length + (bl m N).length ≤ N
 | [], m, _, _ => by have := bl_len (s := m) (k := N); simpa using this
 | x :: r, m, hp, hm => by
  obtain ⟨hx, hr⟩ := List.pairwise_cons.1 hp
  obtain ⟨h1, h2, h3⟩ := hm x (List.mem_cons_self ..)
  have ih := dis_count (N := N) (m := m ||| x) hr (fun s hs => by
   obtain ⟨q1, q2, q3⟩ := hm s (List.mem_cons_of_mem x hs)
   exact ⟨q1, q2, and_or.2 ⟨q3, by rw [Nat.and_comm]; exact hx s hs⟩⟩)
  obtain ⟨j, hj⟩ := Nat.exists_testBit_of_ne_zero h2
  have hmj : m.testBit j = false := by
   have := congrArg (fun z => z.testBit j) h3
   simp only [Nat.testBit_and, Nat.zero_testBit, hj, Bool.true_and] at this
   exact this
  have hlt := bl_lt (s := m) (t := m ||| x) (k := N) (fun i hi => by rw [Nat.testBit_or, hi]; rfl) ⟨j, bit_small h1 hj, hmj, by rw [Nat.testBit_or, hj, Bool.or_true]⟩
  simp
  omega
def bV (R : List Nat) : List (List Int × Bool) := R.map fun s => (bl s 12, (bl s 12).length == 0)
@[simp] theorem bV_len {R : List Nat} : (bV R).length = R.length := by simp [bV]
theorem lls_bV {R : List Nat} : lls (bV R) = lv R := by unfold lls bV lv; rw [List.map_map]; rfl
theorem gl_bV {R : List Nat} {i : Nat} (h : i < R.length) : gl (bV R) i = bl R[i] 12 := by
 rw [gl_get (p := (bl R[i] 12, (bl R[i] 12).length == 0))]
 unfold bV
 rw [List.getElem?_map, List.getElem?_eq_getElem h]
 rfl
theorem lockE_bl {J : List Lg} {s : Nat} (hc : checkJ J = 0) (hN : J.length ≤ 12) (hs : s < 2 ^ J.length) (hl : lockB J s = true) : lockE J (bl s 12) = 0 := by
 have h12 : s < 2 ^ 12 := Nat.lt_of_lt_of_le hs (Nat.pow_le_pow_right (by omega) hN)
 unfold lockE
 rw [if_neg (by simp [hc]), isL_bl hs, setB_bl h12, hl, if_neg (by decide), if_neg (by decide)]
theorem apE_bV {J : List Lg} {R : List Nat} (hc : checkJ J = 0) (hN : J.length ≤ 12) (hR : ∀ s ∈ R, s < 2 ^ J.length ∧ s ≠ 0 ∧ lockB J s = true) (hp : R.Pairwise (fun a b => a &&& b = 0)) : apE J (bV R) = 0 := by
 have hlen : R.length ≤ 12 := by
  have := dis_count (N := J.length) (m := 0) hp (fun s hs => ⟨(hR s hs).1, (hR s hs).2.1, Nat.and_zero s⟩)
  omega
 have he : errL J (bV R) = 0 := errL_zero.2 fun p hp => by
  obtain ⟨s, hs, rfl⟩ := List.mem_map.1 hp
  exact lockE_bl hc hN (hR s hs).1 (hR s hs).2.2
 have hb : bump (bV R) = false := bump_false.2 fun i hi k hk => by
  rw [bV_len] at hi
  have hkl : k < R.length := by omega
  rw [gl_bV hi, gl_bV hkl]
  have h12 : ∀ s ∈ R, s < 2 ^ 12 := fun s hs => Nat.lt_of_lt_of_le (hR s hs).1 (Nat.pow_le_pow_right (by omega) hN)
  cases hx : meetB (bl R[i] 12) (bl R[k] 12) with
  | false => rfl
  | true =>
   have := (meet_set bl_nn bl_nn).1 hx
   rw [setB_bl (h12 _ (List.getElem_mem hi)), setB_bl (h12 _ (List.getElem_mem hkl)), Nat.and_comm] at this
   exact absurd (List.pairwise_iff_getElem.1 hp k i hkl hi hk) this
 unfold apE
 rw [if_neg (by simp [hc]), if_neg (by rw [bV_len]; omega), if_neg (by simp [he]), if_neg (by simp [hb])]
def apL (J : List Lg) : List Nat := lexS (apartS (locksTo J (2 ^ J.length)) 0)
theorem lock_nz {J : List Lg} {s : Nat} (h : lockB J s = true) : s ≠ 0 := by
 unfold lockB at h
 rw [Bool.and_eq_true, decide_eq_true_eq] at h
 exact h.1
theorem apL_mem {J : List Lg} {s : Nat} (h : s ∈ apL J) : s < 2 ^ J.length ∧ s ≠ 0 ∧ lockB J s = true ∧ minLock J s = true := by
 have h1 := apartS_sub ((lexS_perm (l := apartS (locksTo J (2 ^ J.length)) 0)).mem_iff.1 h)
 obtain ⟨h2, h3⟩ := List.mem_filter.1 h1
 have h4 := (minLock_iff.1 h3).1
 exact ⟨List.mem_range.1 h2, lock_nz h4, h4, h3⟩
theorem apL_dis {J : List Lg} : (apL J).Pairwise (fun a b => a &&& b = 0) :=
 (List.Perm.pairwise_iff (fun {a b} h => by rw [Nat.and_comm]; exact h) (lexS_perm (l := apartS (locksTo J (2 ^ J.length)) 0))).2 apartS_dis.1
theorem apL_len {J : List Lg} : (apL J).length = mostS (lexS (locksTo J (2 ^ J.length))) 0 := by
 unfold apL
 rw [lexS_len, apartS_most]
 exact (mostS_perm lexS_perm 0).symm
theorem apE_apL {J : List Lg} (hc : checkJ J = 0) (hN : J.length ≤ 12) : apE J (bV (apL J)) = 0 :=
 apE_bV hc hN (fun s hs => ⟨(apL_mem hs).1, (apL_mem hs).2.1, (apL_mem hs).2.2.1⟩) apL_dis
theorem apartV_ok {J : List Lg} (hc : checkJ J = 0) : apartV J = .tup [.ss (lls (bV (apL J))) (bV (apL J)).length ((apL J).length == 0), .i .i64 0] := by
 have e : (apL J).length = (apartS (locksTo J (2 ^ J.length)) 0).length := lexS_len
 unfold apartV
 rw [if_neg (by simp [hc]), lls_bV, bV_len, e]
 rfl
theorem apL_small {J : List Lg} : (apL J).length ≤ J.length := by
 have := dis_count (N := J.length) (m := 0) (apL_dis (J := J)) (fun s hs => ⟨(apL_mem hs).1, (apL_mem hs).2.1, Nat.and_zero s⟩)
 omega
end Go.Ab
end
section
namespace Go.Ab
open Go Go.Proofs
def locksV (J : List Lg) : V := if checkJ J ≠ 0 then .tup [.ss [] 0 true, .i .i64 (checkJ J)] else .tup [.ss (lv (lexS (locksTo J (2 ^ J.length)))) (locksTo J (2 ^ J.length)).length ((locksTo J (2 ^ J.length)).length == 0), .i .i64 0]
theorem locksV_pure {J} : (locksV J).pure = true := by
 unfold locksV
 split
 ·rfl
 ·simp
def inB (a b : Nat) : Bool := (bl a 12).all fun x => decide (x ∈ bl b 12)
theorem inB_eq {a b : Nat} (ha : a < 2 ^ 12) : inB a b = decide (less a b = 0) := by
 unfold inB
 rw [Bool.eq_iff_iff, List.all_eq_true, decide_eq_true_eq, less_zero]
 constructor
 ·intro h j hj
  have := h _ (bl_mem.2 ⟨j, bit_small ha hj, rfl, hj⟩)
  rw [decide_eq_true_eq] at this
  obtain ⟨x, h1, h2, h3⟩ := bl_mem.1 this
  rw [show j = x by omega]
  exact h3
 ·intro h x hx
  obtain ⟨j, h1, h2, h3⟩ := bl_mem.1 hx
  rw [decide_eq_true_eq]
  exact bl_mem.2 ⟨j, h1, h2, h j h3⟩
theorem within87 {a b : Nat} {σ : List O} (ha : a < 2 ^ 12) : FSpec Tryz.prog 87 [listV a, listV b] σ (.b (decide (less a b = 0))) σ := by
 rw [← inB_eq ha]
 refine FSpec.frame (σ := σ) ?_ (by simp [listV]) rfl
 have hbl := bl_len (s := a) (k := 12)
 have hbb := bl_len (s := b) (k := 12)
 refine fn87.spec0 mixed noIt_ok ?_
 rw [ic87]
 unfold listV inB
 generalize bl a 12 = A at *
 generalize bl b 12 = B at *
 refine ab_seq_k fun K1 h1 => ?_
 simp
 refine h1 _ _ _ ?_
 clear h1 K1
 refine ab_seq_k fun K2 h2 => ?_
 refine ab_seq_k fun K3 h3 => ?_
 simp
 refine h3 _ _ _ ?_
 clear h3 K3
 refine ab_block_k fun K4 h4 => ?_
 refine ab_loop_k (fun m env σ => ∃ n : Nat, n + m = A.length ∧ (A.all fun x => decide (x ∈ B)) = ((A.drop n).all fun x => decide (x ∈ B)) ∧ env = [(0, sl A (A.length == 0)), (1, sl B (B.length == 0)), (5, .i .i64 n)] ∧ σ = []) A.length ⟨0, by omega, by simp, by simp, rfl⟩ ?_
 rintro m env σ ⟨n, hn, hd, rfl, rfl⟩ K5 h5
 rw [ic87_0]
 refine ab_seq_k fun K6 h6 => ?_
 refine ab_seq_k fun K7 h7 => ?_
 simp
 refine h7 _ _ _ ?_
 clear h7 K7
 refine ab_cond_of rfl (fun hc1 => ?_) (fun hc1 => ?_)
 ·have hnl : n < A.length := by simpa using hc1
  obtain ⟨b1, b2, bm⟩ := getD_get hnl
  rw [List.drop_eq_getElem_cons hnl, b2, List.all_cons] at hd
  generalize A.getD n 0 = y at *
  simp
  refine h6 _ _ _ ?_
  clear h6 K6
  refine ab_seq_k fun K8 h8 => ?_
  refine ab_block_k fun K9 h9 => ?_
  refine ab_seq_k fun K10 h10 => ?_
  simp [hnl, b1, b2]
  refine callK_of (has53 (by omega)) ?_
  simp
  refine h10 _ _ _ ?_
  by_cases hy : y ∈ B
  ·rw [decide_eq_true hy, Bool.true_and] at hd
   refine ab_cond_of rfl (fun h => by simp [hy] at h) (fun _ => ?_)
   simp
   refine h9 _ _ _ (h8 _ _ _ ?_)
   simp [wrap64 (x := (n : Int) + 1) (by omega) (by omega)]
   exact h5 _ _ _ (again (m - 1) (by omega) ⟨n + 1, by omega, hd, by simp, rfl⟩)
  ·rw [decide_eq_false hy, Bool.false_and] at hd
   refine ab_cond_of rfl (fun _ => ?_) (fun h => by simp [hy] at h)
   refine ab_seq_k fun K11 h11 => ?_
   simp
   refine h11 _ _ _ ?_
   clear h11 K11
   simp
   refine fin_of 1 ?_
   rw [hd]
   simp [rs87]
 ·have hnl : A.length ≤ n := by simp at hc1; omega
  rw [List.drop_of_length_le hnl, List.all_nil] at hd
  simp
  refine h4 _ _ _ (h2 _ _ _ ?_)
  refine ab_seq_k fun K12 h12 => ?_
  simp
  refine h12 _ _ _ ?_
  clear h12 K12
  simp
  refine fin_of 1 ?_
  rw [hd]
  simp [rs87]
def lockA (J : List Lg) (i : Nat) : List Nat := (List.range i).filter (lockB J)
theorem lockA_succ {J : List Lg} {i : Nat} : lockA J (i + 1) = if lockB J i then lockA J i ++ [i] else lockA J i := by
 unfold lockA
 rw [List.range_succ, List.filter_append]
 cases h : lockB J i <;> simp [h]
theorem lockA_len {J : List Lg} {i : Nat} : (lockA J i).length ≤ i := by
 have := List.length_filter_le (lockB J) (List.range i)
 rw [List.length_range] at this
 exact this
def tightR (y x : Nat) : Bool := decide ((bl y 12).length ≥ (bl x 12).length) || !decide (less y x = 0)
theorem tightR_eq {J : List Lg} {W x : Nat} (hW : W ≤ 4096) (hx : x ∈ lockA J W) : (lockA J W).all (fun y => tightR y x) = minLock J x := by
 obtain ⟨h1, h2⟩ := List.mem_filter.1 hx
 rw [List.mem_range] at h1
 rw [Bool.eq_iff_iff, List.all_eq_true, minLock_iff]
 constructor
 ·intro h
  refine ⟨h2, fun t ht hl => ?_⟩
  have hle := sub_le hl
  have := h t (List.mem_filter.2 ⟨List.mem_range.2 (by omega), ht⟩)
  unfold tightR at this
  rw [hl] at this
  simp at this
  false_or_by_contra
  rename_i hne
  have hex : ∃ j, t.testBit j = false ∧ x.testBit j = true := by
   false_or_by_contra
   rename_i hno
   refine hne (sub_anti hl (less_zero.2 fun j hj => ?_))
   cases hb : t.testBit j with
   | true => rfl
   | false => exact absurd ⟨j, hb, hj⟩ hno
  obtain ⟨j, hj1, hj2⟩ := hex
  have := bl_lt (k := 12) (less_zero.1 hl) ⟨j, bit_small (show x < 2 ^ 12 by omega) hj2, hj1, hj2⟩
  omega
 ·rintro ⟨-, h⟩ y hy
  unfold tightR
  by_cases hl : less y x = 0
  ·have := h y (List.mem_filter.1 hy).2 hl
   subst this
   simp
  ·simp [hl]
theorem lockA_min {J : List Lg} {W : Nat} : (lockA J W).filter (minLock J) = locksTo J W := by
 unfold lockA locksTo
 rw [List.filter_filter]
 refine List.filter_congr fun x _ => ?_
 cases h : minLock J x with
 | false => simp
 | true => simp [(minLock_iff.1 h).1]
theorem locks37 {J : List Lg} {f : Bool} {σ : List O} (hJ : J.length ≤ 1000000) (hl : ∀ x ∈ J, x.2.1.length ≤ 1000000) : FSpec Tryz.prog 37 [jamV J f] σ (locksV J) σ := by
 refine FSpec.frame (σ := σ) ?_ (by simp) locksV_pure
 have h24 := fun σ => refCheck24 (f := f) (σ := σ) hJ (fun x hx => by have := hl x hx; omega)
 refine fn37.spec0 mixed noIt_ok ?_
 rw [ic37]
 refine ab_seq_k fun K1 h1 => ?_
 simp
 refine h1 _ _ _ ?_
 clear h1 K1
 refine ab_seq_k fun K2 h2 => ?_
 refine ab_seq_k fun K3 h3 => ?_
 simp
 refine callK_of (h24 _) ?_
 simp
 refine h3 _ _ _ ?_
 clear h3 K3
 by_cases hc : checkJ J = 0
 ·have hJO := check_ok hl hc
  have hcp := check_parts hc
  have hv : locksV J = .tup [.ss (lv (lexS (locksTo J (2 ^ J.length)))) (locksTo J (2 ^ J.length)).length ((locksTo J (2 ^ J.length)).length == 0), .i .i64 0] := by unfold locksV; rw [if_neg (by simp [hc])]
  refine ab_cond_of rfl (fun h => by simp [hc] at h) (fun _ => ?_)
  simp
  refine h2 _ _ _ ?_
  clear h2 K2
  rw [hv]
  have hN := hJO.2.1
  have hpw := pow12 hN
  have hsh : IntKind.i64.wrap (2 ^ (min J.length 64)) = ((2 ^ J.length : Nat) : Int) := by
   rw [Nat.min_eq_left (by omega)]
   have : ((2 : Int) ^ J.length) = ((2 ^ J.length : Nat) : Int) := by simp
   rw [this]
   exact wrap64 (by omega) (by omega)
  have h85 : ∀ σ i, i < 2 ^ J.length → FSpec Tryz.prog 85 [jamV J f, sl (bl i 16) ((bl i 16).length == 0)] σ (.b (lockB J i)) σ := fun σ i hi => by
   have hb16 := bl_len (s := i) (k := 16)
   have hiL : isL J.length (bl i 16) = true := isL_bl hi
   have hm := isLF_mem hiL
   have := refIsLock85 (f := f) (fl := (bl i 16).length == 0) (l := bl i 16) (σ := σ) hJO hcp hm (by omega)
   rwa [lockR_eq hJO hcp hiL, setB_bl (show i < 2 ^ 16 by omega)] at this
  have h16 : ∀ i, i < 2 ^ J.length → bl i 16 = bl i 12 := fun i hi => bl_sh (s := i) (k := 12) (j := 4) (by omega)
  generalize hW : 2 ^ J.length = W at *
  have hA1 : lockA J 1 = [] := by simp [lockA, List.range_succ, lockB]
  refine ab_seq_k fun K4 h4 => ?_
  simp
  refine h4 _ _ _ ?_
  clear h4 K4
  refine ab_seq_k fun K5 h5 => ?_
  refine ab_seq_k fun K6 h6 => ?_
  simp
  refine h6 _ _ _ ?_
  clear h6 K6
  refine ab_block_k fun K7 h7 => ?_
  refine ab_loop_k (fun m env σ => ∃ (i : Nat) (v : V), i + m = W ∧ env = [(1, .p 0 0 0), (4, v), (5, .ss [] 0 true), (6, .i .i64 i)] ∧ σ[0]? = some (.row 0 [slJ J f]) ∧ Gr 1 1 σ v (lockA J i).length (lv (lockA J i))) (W - 1) ⟨1, .ss [] 0 true, by omega, by simp, rfl, by rw [hA1]; simpa [lv] using Gr.nil⟩ ?_
  rintro m env σ ⟨i, v, hi, rfl, s0, hg⟩ K8 h8
  obtain ⟨hs0, s0'⟩ := List.getElem?_eq_some_iff.1 s0
  have hks := lockA_succ (J := J) (i := i)
  have hkl := lockA_len (J := J) (i := i)
  rw [ic37_0]
  refine ab_seq_k fun K9 h9 => ?_
  refine ab_seq_k fun K10 h10 => ?_
  simp [s0, s0', hsh]
  refine h10 _ _ _ ?_
  clear h10 K10
  refine ab_cond_of rfl (fun hc1 => ?_) (fun hc1 => ?_)
  ·have hil : i < W := by simpa using hc1
   simp
   refine h9 _ _ _ ?_
   clear h9 K9
   refine ab_seq_k fun K11 h11 => ?_
   refine ab_block_k fun K12 h12 => ?_
   have hend : ∀ env σ v, get env 1 = .p 0 0 0 → get env 4 = v → get env 5 = .ss [] 0 true → get env 6 = .i .i64 i → σ[0]? = some (.row 0 [slJ J f]) → Gr 1 1 σ v (lockA J (i + 1)).length (lv (lockA J (i + 1))) → K12 (some 0) env σ := by
    intro env σ v w1 w4 w5 w6 a0 hg
    refine h12 _ _ _ (h11 _ _ _ ?_)
    simp [w1, w4, w5, w6, wrap64 (x := (i : Int) + 1) (by omega) (by omega)]
    exact h8 _ _ _ (again (m - 1) (by omega) ⟨i + 1, v, by omega, by simp, a0, hg⟩)
   clear h11 h12 h8
   refine ab_seq_k fun K13 h13 => ?_
   simp [abDs_consU, drU, recheck_cons, recheck_nil, rcK, IS.dst, s0, s0']
   refine callK_of (bits86 (by omega)) ?_
   simp [abDs_consU, drU, recheck_cons, recheck_nil, rcK, IS.dst]
   refine callK_of (h85 _ _ hil) ?_
   simp [abDs_consU, drU, recheck_cons, recheck_nil, rcK, IS.dst]
   refine h13 _ _ _ ?_
   clear h13 K13
   cases hb : lockB J i with
   | false =>
    rw [hb, if_neg (by simp)] at hks
    refine ab_cond_of rfl (fun h => by cases h) (fun _ => ?_)
    simp
    exact hend _ _ v rfl rfl rfl rfl s0 (by rw [hks]; exact hg)
   | true =>
    rw [hb, if_pos rfl] at hks
    refine ab_cond_of rfl (fun _ => ?_) (fun h => by cases h)
    have hbid : idOf v ≠ some 0 := fun e => by have := (hg.id_ge e).1; omega
    simp
    refine callK_of (bits86 (by omega)) ?_
    rw [h16 i hil]
    simp
    refine appG hg (by omega) (by omega) (by omega) rfl ?_
    intro v' σ' hv' hgr
    simp
    refine hend _ _ v' rfl rfl rfl rfl (hgr.get hbid s0) ?_
    rw [hks]
    simpa [lv, listV] using hv'
  ·have hiW : i = W := by simp at hc1; omega
   simp
   refine h7 _ _ _ (h5 _ _ _ ?_)
   clear h5 h7 h8 h9
   rw [hiW] at hg hkl
   have htr : ∀ x ∈ lockA J W, (lockA J W).all (fun y => tightR y x) = minLock J x := fun x hx => tightR_eq (by omega) hx
   have hAlt : ∀ x ∈ lockA J W, x < 2 ^ 12 := fun x hx => by
    have := List.mem_range.1 (List.mem_filter.1 hx).1
    omega
   have hfm := lockA_min (J := J) (W := W)
   have hsp := hg.slp
   clear hg s0 s0' hs0 hks hA1 hi hiW
   generalize lockA J W = A at *
   rw [← hfm] at hv ⊢
   refine ab_seq_k fun K20 h20 => ?_
   refine ab_seq_k fun K21 h21 => ?_
   simp
   refine h21 _ _ _ ?_
   clear h21 K21
   refine ab_block_k fun K22 h22 => ?_
   refine ab_loop_k (fun m env τ => ∃ j : Nat, j + m = A.length ∧ env = [(4, v), (5, .ss (lv (lexS ((A.take j).filter (minLock J)))) ((A.take j).filter (minLock J)).length (((A.take j).filter (minLock J)).length == 0)), (7, .i .i64 j)] ∧ τ = σ) A.length ⟨0, by omega, by simp [lexS, sortG, lv], rfl⟩ ?_
   rintro m env τ ⟨j, hj, rfl, rfl⟩ K23 h23
   rw [ic37_2]
   refine ab_seq_k fun K24 h24' => ?_
   refine ab_seq_k fun K25 h25 => ?_
   simp
   refine hsp.len ?_
   simp
   refine h25 _ _ _ ?_
   clear h25 K25
   refine ab_cond_of rfl (fun hc2 => ?_) (fun hc2 => ?_)
   ·have hjl : j < A.length := by simpa using hc2
    have hx : A[j]? = some A[j] := List.getElem?_eq_getElem hjl
    have hxm := List.getElem_mem hjl
    have htk : (A.take (j + 1)).filter (minLock J) = if minLock J A[j] then (A.take j).filter (minLock J) ++ [A[j]] else (A.take j).filter (minLock J) := by
     rw [List.take_add_one, hx, Option.toList_some, List.filter_append]
     cases h : minLock J A[j] <;> simp [h]
    have htx := htr _ hxm
    have hx12 := hAlt _ hxm
    have hFl : ((A.take j).filter (minLock J)).length ≤ 4096 := by
     have h1 := List.length_filter_le (minLock J) (A.take j)
     rw [List.length_take] at h1
     omega
    generalize A[j] = x at *
    have hlx := lv_get hx
    generalize (A.take j).filter (minLock J) = F at *
    have hput := fun fl => put88 (S := lexS F) (x := x) (f := fl) (σ := τ) (by rw [lexS_len]; omega)
    rw [lexS_len] at hput
    generalize hKV : V.ss (lv (lexS F)) F.length (F.length == 0) = KV at *
    simp
    refine h24' _ _ _ ?_
    clear h24' K24
    refine ab_seq_k fun K26 h26 => ?_
    refine ab_block_k fun K27 h27 => ?_
    have hend : ∀ env, get env 4 = v → get env 5 = .ss (lv (lexS ((A.take (j + 1)).filter (minLock J)))) ((A.take (j + 1)).filter (minLock J)).length (((A.take (j + 1)).filter (minLock J)).length == 0) → get env 7 = .i .i64 j → K27 (some 0) env τ := by
     intro env w4 w5 w7
     refine h27 _ _ _ (h26 _ _ _ ?_)
     simp [w4, w5, w7, wrap64 (x := (j : Int) + 1) (by omega) (by omega)]
     exact h23 _ _ _ (again (m - 1) (by omega) ⟨j + 1, by omega, by simp, rfl⟩)
    clear h26 h27 h23
    refine ab_seq_k fun K28 h28 => ?_
    simp
    refine h28 _ _ _ ?_
    clear h28 K28
    refine ab_seq_k fun K29 h29 => ?_
    refine ab_seq_k fun K30 h30 => ?_
    simp
    refine h30 _ _ _ ?_
    clear h30 K30
    refine ab_block_k fun K31 h31 => ?_
    refine ab_loop_k (fun m env τ' => ∃ k : Nat, k + m = A.length ∧ env = [(4, v), (5, KV), (7, .i .i64 j), (8, .b ((A.take k).all fun y => tightR y x)), (9, .i .i64 k)] ∧ τ' = τ) A.length ⟨0, by omega, by simp, rfl⟩ ?_
    rintro m2 env τ' ⟨k, hk, rfl, rfl⟩ K32 h32
    rw [ic37_1]
    refine ab_seq_k fun K33 h33 => ?_
    refine ab_seq_k fun K34 h34 => ?_
    simp
    refine hsp.len ?_
    simp
    refine h34 _ _ _ ?_
    clear h34 K34
    refine ab_cond_of rfl (fun hc3 => ?_) (fun hc3 => ?_)
    ·have hkl2 : k < A.length := by simpa using hc3
     have hy : A[k]? = some A[k] := List.getElem?_eq_getElem hkl2
     have hy12 := hAlt _ (List.getElem_mem hkl2)
     have hts : ((A.take (k + 1)).all fun y => tightR y x) = (((A.take k).all fun y => tightR y x) && tightR A[k] x) := by
      rw [List.take_add_one, hy, List.all_append]
      simp
     generalize A[k] = y at *
     have hly := lv_get hy
     have hbx := bl_len (s := x) (k := 12)
     have hby := bl_len (s := y) (k := 12)
     simp
     refine h33 _ _ _ ?_
     clear h33 K33
     refine ab_seq_k fun K35 h35 => ?_
     refine ab_block_k fun K36 h36 => ?_
     have hend2 : ∀ env, get env 4 = v → get env 5 = KV → get env 7 = .i .i64 j → get env 8 = .b ((A.take (k + 1)).all fun y => tightR y x) → get env 9 = .i .i64 k → K36 (some 0) env τ' := by
      intro env w4 w5 w7 w8 w9
      refine h36 _ _ _ (h35 _ _ _ ?_)
      simp [w4, w5, w7, w8, w9, wrap64 (x := (k : Int) + 1) (by omega) (by omega)]
      exact h32 _ _ _ (again (m2 - 1) (by omega) ⟨k + 1, by omega, by simp, rfl⟩)
     clear h35 h36 h32
     generalize ((A.take k).all fun y => tightR y x) = c at *
     cases c with
     | false =>
      simp [abDs_consU, drU, recheck_cons, recheck_nil, rcK, IS.dst]
      exact hend2 _ rfl rfl rfl (by rw [hts]; rfl) rfl
     | true =>
      rw [Bool.true_and] at hts
      simp [abDs_consU, drU, recheck_cons, recheck_nil, rcK, IS.dst]
      refine hsp.ixs hly fun a ha => ?_
      simp [abDs_consU, drU, recheck_cons, recheck_nil, rcK, IS.dst]
      refine ha _ ?_
      simp [abDs_consU, drU, recheck_cons, recheck_nil, rcK, IS.dst, listV]
      refine hsp.ixs hlx fun a ha => ?_
      simp [abDs_consU, drU, recheck_cons, recheck_nil, rcK, IS.dst]
      refine ha _ ?_
      simp [abDs_consU, drU, recheck_cons, recheck_nil, rcK, IS.dst, listV]
      by_cases hge : (bl x 12).length ≤ (bl y 12).length
      ·simp [abDs_consU, drU, recheck_cons, recheck_nil, rcK, IS.dst, hge]
       exact hend2 _ rfl rfl rfl (by rw [hts]; simp [tightR, hge]) rfl
      ·simp [abDs_consU, drU, recheck_cons, recheck_nil, rcK, IS.dst, hge]
       refine hsp.ixs hly fun a ha => ?_
       simp [abDs_consU, drU, recheck_cons, recheck_nil, rcK, IS.dst]
       refine ha _ ?_
       simp [abDs_consU, drU, recheck_cons, recheck_nil, rcK, IS.dst, listV]
       refine hsp.ixs hlx fun a ha => ?_
       simp [abDs_consU, drU, recheck_cons, recheck_nil, rcK, IS.dst]
       refine ha _ ?_
       simp [abDs_consU, drU, recheck_cons, recheck_nil, rcK, IS.dst]
       refine callK_of (within87 hy12) ?_
       simp [abDs_consU, drU, recheck_cons, recheck_nil, rcK, IS.dst]
       exact hend2 _ rfl rfl rfl (by rw [hts]; simp [tightR, hge]) rfl
    ·have hkl3 : k = A.length := by simp at hc3; omega
     rw [hkl3, List.take_length, htx]
     simp
     refine h31 _ _ _ (h29 _ _ _ ?_)
     clear h29 h31 h32 h33
     refine ab_seq_k fun K40 h40 => ?_
     simp
     refine h40 _ _ _ ?_
     clear h40 K40
     cases hm : minLock J x with
     | false =>
      rw [hm, if_neg (by simp)] at htk
      refine ab_cond_of rfl (fun h => by cases h) (fun _ => ?_)
      simp
      exact hend _ rfl (by rw [htk]; exact hKV.symm) rfl
     | true =>
      rw [hm, if_pos rfl] at htk
      refine ab_cond_of rfl (fun _ => ?_) (fun h => by cases h)
      simp
      refine hsp.ixs hlx fun a ha => ?_
      simp
      refine ha _ ?_
      simp
      rw [← hKV]
      refine callK_of (hput _) ?_
      simp
      refine hend _ rfl ?_ rfl
      rw [htk]
      have hz : (F.length + 1 == 0) = false := rfl
      simp [lexS, sortG_snoc, hz]
   ·have hjl : j = A.length := by simp at hc2; omega
    rw [hjl, List.take_length]
    simp
    refine h22 _ _ _ (h20 _ _ _ ?_)
    refine ab_seq_k fun K50 h50 => ?_
    simp
    refine h50 _ _ _ ?_
    clear h50 K50
    simp
    refine fin_of 3 ?_
    simp [rs37]
 ·have hv : locksV J = .tup [.ss [] 0 true, .i .i64 (checkJ J)] := by unfold locksV; rw [if_pos hc]
  refine ab_cond_of rfl (fun _ => ?_) (fun h => by simp [hc] at h)
  refine ab_seq_k fun K4 h4 => ?_
  simp
  refine callK_of (h24 _) ?_
  simp
  refine h4 _ _ _ ?_
  clear h4 K4
  simp
  refine fin_of 3 ?_
  simp [rs37, hv]
end Go.Ab
end
section
namespace Go.Ab
open Go Go.Proofs
def wideB (J : List Lg) : Bool := decide (checkJ J = 0) && decide (8 < J.length)
theorem wide28 {J : List Lg} {f : Bool} {σ : List O} (hJ : J.length ≤ 1000000) (hl : ∀ x ∈ J, (x.2.1.length : Int) < 1000000000) : FSpec Tryz.prog 28 [jamV J f] σ (.b (wideB J)) σ := by
 refine FSpec.frame (σ := σ) ?_ (by simp) rfl
 refine fn28.spec0 mixed noIt_ok ?_
 rw [ic28]
 refine ab_seq_k fun K1 h1 => ?_
 simp
 refine h1 _ _ _ ?_
 clear h1 K1
 refine ab_seq_k fun K2 h2 => ?_
 simp
 refine callK_of (refCheck24 hJ hl) ?_
 by_cases hc : checkJ J = 0
 ·simp [hc]
  refine h2 _ _ _ ?_
  simp
  refine fin_of 1 ?_
  simp [rs28, wideB, hc]
  try omega
 ·simp [hc]
  refine h2 _ _ _ ?_
  simp
  refine fin_of 1 ?_
  simp [rs28, wideB, hc]
end Go.Ab
end
section
namespace Go.Ab
open Go Go.Proofs
theorem works_run : runY 18 [] = some (.b true, []) := by kernel_rfl
theorem works_ok : FSpec Tryz.prog 18 [] [] (.b true) [] := runY_ok works_run
theorem wk (σ : List O) : FSpec Tryz.prog 18 [] σ (.b true) σ := FSpec.frame works_ok (by simp) rfl
end Go.Ab
end
