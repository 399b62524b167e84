/- The most groups, as the program finds them. -/
import Derived.Test.YtgaijhpekajflaaSX
set_option linter.unusedVariables false
set_option linter.unusedSimpArgs false
set_option maxHeartbeats 4000000
set_option maxRecDepth 100000
namespace Go.Ab
open Go Go.Proofs

/-! ### Plain -/
structure Chain (F : Nat → Int) (N : Nat) (o : List Nat) (t s : Nat) : Prop where
  lt : t < 2 ^ N
  sub : Sub s t
  even : sumF F t N = 0
  one : ∀ m, m < N → cntB m o = if t.testBit m then 0 else 1
  og : ∀ g ∈ o, 1 ≤ g ∧ g < 2 ^ N ∧ sumF F g N = 0
  cnt : (o.length : Int) + prP F N t = prP F N (2 ^ N - 1)
  st : s = t ∨ (evF F N s = false ∧ prP F N t = prP F N s + 1)
  z : s = 0 → t = 0
theorem Chain.start {F N} (h : sumF F (2 ^ N - 1) N = 0) : Chain F N [] (2 ^ N - 1) (2 ^ N - 1) :=
  ⟨by have := Nat.two_pow_pos N; omega, Nat.and_self _, h, fun m hm => by rw [Nat.testBit_two_pow_sub_one]; simp [cntB, hm], fun g hg => (by cases hg), by simp, .inl rfl, id⟩
theorem Chain.slt {F N o t s} (h : Chain F N o t s) : s < 2 ^ N := Nat.lt_of_le_of_lt h.sub.le h.lt
theorem Chain.len {F N o t s} (h : Chain F N o t s) : o.length ≤ N := by
  have h1 := h.cnt
  have h2 := prP_nn (F := F) (N := N) (s := t)
  have h3 := prP_le (F := F) (N := N) (s := 2 ^ N - 1) (by have := Nat.two_pow_pos N; omega)
  omega
theorem Chain.next {F N o t s n i} (h : Chain F N o t s) (hi : s.testBit i = true) (hn : n = drop1 s i) (hp : prP F N s = prP F N n + (if evF F N s then 1 else 0)) : prP F N n + 1 = prP F N t := by
  have hs : s ≠ 0 := fun h => by rw [h] at hi; simp at hi
  rcases h.st with rfl | ⟨h1, h2⟩
  · rw [ev_iff.2 ⟨hs, h.even⟩, if_pos rfl] at hp
    exact hp.symm
  · rw [h1] at hp
    simp at hp
    omega
theorem Sub.trans {a b c : Nat} (h1 : Sub a b) (h2 : Sub b c) : Sub a c := sub_iff.2 fun i hi => sub_iff.1 h2 i (sub_iff.1 h1 i hi)
theorem Chain.cut {F N o t s n i} (h : Chain F N o t s) (hi : s.testBit i = true) (hn : n = drop1 s i) (hp : prP F N s = prP F N n + (if evF F N s then 1 else 0)) (he : n = 0 ∨ evF F N n = true) : Chain F N (o ++ [less t n]) n n := by
  have hnx := h.next hi hn hp
  have hns : Sub n s := by rw [hn]; exact drop1_sub
  have hnt := hns.trans h.sub
  have hlt : n < s := by rw [hn]; exact drop1_lt hi
  have hst := h.sub.le
  have hev : sumF F n N = 0 := by
    rcases he with rfl | he
    · exact sumF_none
    · exact (ev_iff.1 he).2
  have hl := less_sub hnt
  have hsum := sumF_less (F := F) (m := N) hnt
  refine ⟨by have := h.lt; omega, Nat.and_self _, hev, fun m hm => ?_, fun g hg => ?_, ?_, .inl rfl, id⟩
  · rw [cntB_snoc, h.one m hm, less_bit]
    have := sub_iff.1 hnt m
    cases ht : t.testBit m <;> cases hnm : n.testBit m <;> simp_all
  · rcases List.mem_append.1 hg with hg | hg
    · exact h.og g hg
    · simp at hg
      subst hg
      refine ⟨by omega, by have := h.lt; omega, ?_⟩
      rw [h.even, hev] at hsum
      omega
  · have := h.cnt
    rw [List.length_append, List.length_singleton]
    omega
theorem Chain.skip {F N o t s n i} (h : Chain F N o t s) (hi : s.testBit i = true) (hn : n = drop1 s i) (hp : prP F N s = prP F N n + (if evF F N s then 1 else 0)) (h0 : n ≠ 0) (he : evF F N n = false) : Chain F N o t n := by
  have hnx := h.next hi hn hp
  have hns : Sub n s := by rw [hn]; exact drop1_sub
  exact ⟨h.lt, hns.trans h.sub, h.even, h.one, h.og, h.cnt, .inr ⟨he, by omega⟩, fun h => absurd h h0⟩
def dropsL (s k : Nat) : List Nat := ((List.range k).filter fun i => s.testBit i).map (drop1 s)
theorem dropsL_succ {s k : Nat} : dropsL s (k + 1) = dropsL s k ++ (if s.testBit k then [drop1 s k] else []) := by
  unfold dropsL
  rw [List.range_succ, List.filter_append, List.map_append]
  congr 1
  cases h : s.testBit k <;> simp [h]
theorem dropsL_mem {s k x : Nat} : x ∈ dropsL s k ↔ ∃ i, i < k ∧ s.testBit i = true ∧ drop1 s i = x := by
  simp [dropsL, and_assoc]
theorem dropsL_len {s k : Nat} : (dropsL s k).length ≤ k := by
  unfold dropsL
  rw [List.length_map]
  have := List.length_filter_le (fun i => s.testBit i) (List.range k)
  rw [List.length_range] at this
  exact this
/-- The first one of those that are better than all before them. -/
def bestL (p : Int → Int → Bool) (x : Int) (r : List Int) : Int := r.foldl (fun o y => if p y o = true then y else o) x
theorem bestL_mem {p x} : ∀ {r : List Int}, bestL p x r ∈ x :: r := by
  intro r
  refine snoc_ind (P := fun r => bestL p x r ∈ x :: r) (by simp [bestL]) ?_ r
  intro r a ih
  unfold bestL at *
  rw [List.foldl_append, List.foldl_cons, List.foldl_nil]
  split
  · simp
  · rw [List.mem_cons] at ih ⊢
    rcases ih with ih | ih
    · exact .inl ih
    · exact .inr (List.mem_append_left _ ih)
theorem bestL_max {q : Int → Int} {x} : ∀ {r : List Int}, ∀ y ∈ x :: r, q y ≤ q (bestL (fun a b => decide (q b < q a)) x r) := by
  intro r
  refine snoc_ind (P := fun r => ∀ y ∈ x :: r, q y ≤ q (bestL (fun a b => decide (q b < q a)) x r)) (by simp [bestL]) ?_ r
  intro r a ih y hy
  unfold bestL at *
  rw [List.foldl_append, List.foldl_cons, List.foldl_nil]
  generalize List.foldl (fun o y => if decide (q o < q y) = true then y else o) x r = b at *
  rw [← List.cons_append, List.mem_append] at hy
  by_cases hc : q b < q a
  · simp only [hc, decide_true, if_true]
    rcases hy with hy | hy
    · have := ih y hy; omega
    · simp at hy; subst hy; exact Int.le_refl _
  · simp only [hc, decide_false, Bool.false_eq_true, if_false]
    rcases hy with hy | hy
    · exact ih y hy
    · simp at hy; subst hy; omega
def ofN (o : List Nat) : List Int := o.map (Nat.cast : Nat → Int)
@[simp] theorem ofN_len {o} : (ofN o).length = o.length := by simp [ofN]
theorem ofN_snoc {o : List Nat} {g : Nat} : ofN (o ++ [g]) = ofN o ++ [(g : Int)] := by simp [ofN]
def betP (F : Nat → Int) (N : Nat) (a b : Int) : Bool := decide (prP F N b.toNat < prP F N a.toNat)
def nextI (F : Nat → Int) (N s : Nat) : Int := match ofN (dropsL s N) with
  | [] => 0
  | x :: r => bestL (betP F N) x r
def nextS (F : Nat → Int) (N s : Nat) : Nat := (nextI F N s).toNat
theorem drops_ne {N s} (hs : s < 2 ^ N) (hz : s ≠ 0) : ∃ x r, ofN (dropsL s N) = x :: r := by
  obtain ⟨i, hi⟩ := ne_bit hz
  have : ((drop1 s i : Nat) : Int) ∈ ofN (dropsL s N) := List.mem_map.2 ⟨_, dropsL_mem.2 ⟨i, bit_lt hs hi, hi, rfl⟩, rfl⟩
  cases h : ofN (dropsL s N) with
  | nil => rw [h] at this; cases this
  | cons x r => exact ⟨x, r, rfl⟩
/-- What is chosen is a right next one. -/
theorem next_ok {F N s} (hs : s < 2 ^ N) (hz : s ≠ 0) : nextI F N s = (nextS F N s : Int) ∧ ∃ i, s.testBit i = true ∧ nextS F N s = drop1 s i ∧ prP F N s = prP F N (nextS F N s) + (if evF F N s then 1 else 0) := by
  obtain ⟨x, r, hL⟩ := drops_ne hs hz
  have hI : nextI F N s = bestL (betP F N) x r := by unfold nextI; rw [hL]
  have hm := bestL_mem (p := betP F N) (x := x) (r := r)
  rw [← hL] at hm
  obtain ⟨n', hn', e⟩ := List.mem_map.1 hm
  have e' : nextS F N s = n' := by unfold nextS; rw [hI, ← e]; rfl
  refine ⟨by rw [e', hI, e], ?_⟩
  rw [e']
  obtain ⟨i, hi, hb, hd⟩ := dropsL_mem.1 hn'
  refine ⟨i, hb, hd.symm, ?_⟩
  obtain ⟨j, hj, hpj⟩ := prP_at (F := F) hs hz
  have h1 := bestL_max (q := fun a => prP F N a.toNat) (x := x) (r := r) ((drop1 s j : Nat) : Int) (by
    rw [← hL]
    exact List.mem_map.2 ⟨_, dropsL_mem.2 ⟨j, bit_lt hs hj, hj, rfl⟩, rfl⟩)
  have e3 : bestL (fun a b => decide (prP F N b.toNat < prP F N a.toNat)) x r = (n' : Int) := e.symm
  rw [e3] at h1
  simp only [Int.toNat_natCast] at h1
  have h2 := prP_up (F := F) hs hb
  rw [hd] at h2
  omega
inductive FinG (F : Nat → Int) (N : Nat) : List Nat → Nat → Nat → List Nat → Prop
  | stop {o t} : FinG F N o t 0 o
  | cut {o t s o'} : s ≠ 0 → (nextS F N s = 0 ∨ evF F N (nextS F N s) = true) → FinG F N (o ++ [less t (nextS F N s)]) (nextS F N s) (nextS F N s) o' → FinG F N o t s o'
  | skip {o t s o'} : s ≠ 0 → ¬ (nextS F N s = 0 ∨ evF F N (nextS F N s) = true) → FinG F N o t (nextS F N s) o' → FinG F N o t s o'
theorem fin_ex {F N} : ∀ s o t, Chain F N o t s → ∃ o', FinG F N o t s o' ∧ Chain F N o' 0 0 := by
  intro s
  induction s using Nat.strongRecOn with
  | _ s ih =>
    intro o t h
    by_cases hz : s = 0
    · subst hz
      have := h.z rfl
      subst this
      exact ⟨o, .stop, h⟩
    obtain ⟨-, i, hi, hn, hp⟩ := next_ok (F := F) h.slt hz
    have hlt : nextS F N s < s := by rw [hn]; exact drop1_lt hi
    by_cases hc : nextS F N s = 0 ∨ evF F N (nextS F N s) = true
    · obtain ⟨o', h1, h2⟩ := ih _ hlt _ _ (h.cut hi hn hp hc)
      exact ⟨o', .cut hz hc h1, h2⟩
    · have h0 : nextS F N s ≠ 0 := fun e => hc (.inl e)
      have he : evF F N (nextS F N s) = false := by
        cases q : evF F N (nextS F N s) with
        | false => rfl
        | true => exact absurd (.inr q) hc
      obtain ⟨o', h1, h2⟩ := ih _ hlt _ _ (h.skip hi hn hp h0 he)
      exact ⟨o', .skip hz hc h1, h2⟩

/-! ### Walks -/
theorem led_cells {N : Nat} {D : List Db} {f : Bool} : ∃ c, ledT N D f = .sp c 0 ∧ c.length = 14 ∧ pureL c = true ∧ c[0]? = some (.i .i64 N) ∧ (∀ i, i < 10 → c[2 + i]? = some (.i .i64 (balF D i))) ∧ c[13]? = some (sl (prcL N D) false) :=
  ⟨_, rfl, ledC_len, pure_ledT (N := N) (D := D) (f := f), rfl, fun i hi => ledC_2 hi, rfl⟩
theorem better84 {N : Nat} {D : List Db} {f : Bool} {a b : Nat} (ha : a < 2 ^ N) (hb : b < 2 ^ N) : FSpec Try.prog 84 [.i .i64 a, .i .i64 b, .sp [ledT N D f] 0] [] (.b (decide (prP (balF D) N b < prP (balF D) N a))) [] := by
  refine fn84.spec0 mixed noIt_ok ?_
  rw [ic84]
  obtain ⟨c, hc, c1, c2, c3, c4, c5⟩ := led_cells (N := N) (D := D) (f := f)
  obtain ⟨c5l, c5'⟩ := List.getElem?_eq_some_iff.1 c5
  have ql := prcL_len (N := N) (D := D)
  have qa := o_some (o := prcL N D) (j := a) (by omega)
  have qb := o_some (o := prcL N D) (j := b) (by omega)
  have qa2 : (prcL N D).getD a 0 = prP (balF D) N a := rfl
  have qb2 : (prcL N D).getD b 0 = prP (balF D) N b := rfl
  rw [qa2] at qa
  rw [qb2] at qb
  obtain ⟨qal, qa'⟩ := List.getElem?_eq_some_iff.1 qa
  obtain ⟨qbl, qb'⟩ := List.getElem?_eq_some_iff.1 qb
  rw [hc]
  generalize prcL N D = Q at *
  refine ab_seq_k fun K1 h1 => ?_
  simp
  refine h1 _ _ _ ?_
  clear h1 K1
  refine ab_seq_k fun K2 h2 => ?_
  simp [abDs_consU, drU, recheck_cons, recheck_nil, rcK, IS.dst, c1, c5, c5', qal, qbl, qa, qa', qb, qb']
  refine h2 _ _ _ ?_
  simp
  exact fin_of 1 (by simp [rs84])
theorem best83 {x : Int} {r : List Int} {f : Bool} {g : FuncId} {first cap : List V} {p : Int → Int → Bool} (hg : ∀ a ∈ x :: r, ∀ b ∈ x :: r, FSpec Try.prog g (first ++ [.i .i64 a, .i .i64 b] ++ cap) [] (.b (p a b)) []) (hl : (r.length : Int) < 1000000000) :
    FSpec Try.prog 83 [sl (x :: r) f, .f (.func g) first cap] [] (.i .i64 (bestL p x r)) [] := by
  refine fn83.spec0 mixed noIt_ok ?_
  rw [ic83]
  refine ab_seq_k fun K1 h1 => ?_
  simp
  refine h1 _ _ _ ?_
  clear h1 K1
  refine ab_seq_k fun K2 h2 => ?_
  simp
  refine h2 _ _ _ ?_
  clear h2 K2
  refine ab_seq_k fun K3 h3 => ?_
  refine ab_seq_k fun K4 h4 => ?_
  simp
  refine ⟨by omega, ?_⟩
  refine h4 _ _ _ ?_
  clear h4 K4
  refine ab_block_k fun K5 h5 => ?_
  refine ab_loop_k (fun m env σ => ∃ (i : Nat) (f' : Bool), i + m = r.length ∧ env = [(1, .f (.func g) first cap), (5, .i .i64 (bestL p x (r.take i))), (12, .ss (ints r) r.length f'), (13, .i .i64 r.length), (14, .i .i64 i)] ∧ σ = []) r.length ⟨0, f, by omega, by simp [bestL]; simp [ints]; exact List.take_of_length_le (by simp), rfl⟩ ?_
  rintro m env σ ⟨i, f', hi, rfl, rfl⟩ K6 h6
  rw [ic83_0]
  refine ab_seq_k fun K7 h7 => ?_
  simp
  refine h7 _ _ _ ?_
  clear h7 K7
  refine ab_seq_k fun K8 h8 => ?_
  refine ab_cond_of rfl (fun hc => ?_) (fun hc => ?_)
  · have hil : i < r.length := by simpa using hc
    obtain ⟨y, hy⟩ : ∃ y, r[i]? = some y := ⟨_, List.getElem?_eq_getElem hil⟩
    obtain ⟨hyl, hy'⟩ := List.getElem?_eq_some_iff.1 hy
    have hym : y ∈ x :: r := List.mem_cons_of_mem _ (List.mem_of_getElem? hy)
    have hbm : bestL p x (r.take i) ∈ x :: r := by
      have := bestL_mem (p := p) (x := x) (r := r.take i)
      rw [List.mem_cons] at this ⊢
      rcases this with h | h
      · exact .inl h
      · exact .inr (List.mem_of_mem_take h)
    have hst : bestL p x (r.take (i + 1)) = if p y (bestL p x (r.take i)) = true then y else bestL p x (r.take i) := by
      rw [List.take_add_one, hy]
      unfold bestL
      rw [List.foldl_append]
      rfl
    have hgg := hg y hym _ hbm
    generalize bestL p x (r.take i) = b at *
    simp
    refine h8 _ _ _ ?_
    clear h8 K8
    refine ab_seq_k fun K9 h9 => ?_
    refine ab_block_k fun K10 h10 => ?_
    refine ab_seq_k fun K11 h11 => ?_
    simp [hyl, hy, hy']
    refine h11 _ _ _ ?_
    clear h11 K11
    refine ab_seq_k fun K12 h12 => ?_
    simp
    refine callK_of (by simpa using hgg) ?_
    simp
    refine h12 _ _ _ ?_
    clear h12 K12
    have hend : ∀ env, get env 1 = .f (.func g) first cap → get env 5 = .i .i64 (bestL p x (r.take (i + 1))) → get env 12 = .ss (ints r) r.length f' → get env 13 = .i .i64 r.length → get env 14 = .i .i64 i → K10 (some 0) env [] := by
      intro env w1 w5 w12 w13 w14
      refine h10 _ _ _ ?_
      refine h9 _ _ _ ?_
      simp [w1, w5, w12, w13, w14, wrap64 (x := (i : Int) + 1) (by omega) (by omega)]
      exact h6 _ _ _ (again (m - 1) (by omega) ⟨i + 1, f', by omega, by simp, rfl⟩)
    refine ab_cond_of rfl (fun hp => ?_) (fun hp => ?_)
    · simp
      refine hend _ rfl ?_ rfl rfl rfl
      rw [hst, if_pos hp]; rfl
    · simp
      refine hend _ rfl ?_ rfl rfl rfl
      rw [hst, if_neg (by rw [hp]; simp)]; rfl
  · have hil : i = r.length := by simp at hc; omega
    subst hil
    rw [List.take_length]
    simp
    refine h5 _ _ _ ?_
    refine h3 _ _ _ ?_
    refine ab_seq_k fun K20 h20 => ?_
    simp
    refine h20 _ _ _ ?_
    clear h20 K20
    simp
    exact fin_of 1 (by simp [rs83])

theorem ints_snoc {l : List Int} {x : Int} : ints (l ++ [x]) = ints l ++ [.i .i64 x] := by simp [ints]
theorem slcG {k n es : Nat} {σ : List O} {v : V} {cs : List V} {C : Ct} (h : Gr k es σ v n cs) (hC : C v σ) : slcC es v none (some (.i .i64 (n : Int))) (some (.i .i64 (n : Int))) σ C := by
  rcases h.cases with ⟨rfl, rfl, rfl⟩ | ⟨id, ver, hn, hid, rfl, hs, hlt⟩
  · simpa using hC
  · simp [liveV, hs]
    exact hC
theorem frz_clo {k : Nat} {g : FuncId} {σ : List O} {cells : List V} (h : σ[0]? = some (.row 0 cells)) (hp : pureL cells = true) : frz (k + 3) 0 σ (.f (.func g) [] [.p 0 0 0]) = .f (.func g) [] [.sp cells 0] := by
  have e : frz (k + 2) 0 σ (.p 0 0 0) = .sp cells 0 := by
    rw [frz]
    simp only [V.pure, Bool.false_eq_true, if_false, Nat.not_lt_zero, h, if_true]
    rw [map_frz hp]
  rw [frz]
  simp [-frz, V.pure, e]
/-- The groups that are found. -/
theorem groups64 {N : Nat} {D : List Db} (hN1 : 1 ≤ N) (hN : N ≤ 10) (hD : DbOK N 1000000 D) : ∃ o : List Nat, Chain (balF D) N o 0 0 ∧ ∀ f, FSpec Try.prog 64 [ledT N D f] [] (sl (sortB ltI (ofN o)) false) [] := by
  have hs0 : Chain (balF D) N [] (2 ^ N - 1) (2 ^ N - 1) := Chain.start (bal_all hD rfl)
  obtain ⟨o', hfin, hch⟩ := fin_ex _ _ _ hs0
  refine ⟨o', hch, fun f => ?_⟩
  refine fn64.spec0 mixed noIt_ok ?_
  rw [ic64]
  have hp := pow_small hN
  have hcast : (((2 ^ N : Nat) : Int) - 1) = ((2 ^ N - 1 : Nat) : Int) := by omega
  generalize hT : 2 ^ N - 1 = top at *
  have hA : ∀ σ, FSpec Try.prog 63 [ledT N D f] σ (.i .i64 (top : Int)) σ := fun σ => by
    have := all63 (N := N) (D := D) (f := f) (F := balF D) (ev := .sm ((mpV (evens (balF D) N)).map (·.2))) (prs := sl (prL (evF (balF D) N) N (2 ^ N)) false) (σ := σ) hN rfl
    rw [hcast] at this
    exact this
  have hev : ∀ s : Nat, s < 2 ^ N → ∀ σ, FSpec Try.prog 69 [ledT N D f, .i .i64 s] σ (.b (evF (balF D) N s)) σ := fun s hs σ => by
    have := even69 (n := N) (D := D) (f := f) (F := balF D) (prs := sl (prL (evF (balF D) N) N (2 ^ N)) false) (E := evens (balF D) N) (s := s) (σ := σ) evens_len (by simp)
    rw [evB_is hs] at this
    exact this
  have hbet : ∀ a b : Nat, a < 2 ^ N → b < 2 ^ N → FSpec Try.prog 84 [.i .i64 a, .i .i64 b, .sp [ledT N D f] 0] [] (.b (decide (prP (balF D) N b < prP (balF D) N a))) [] := fun a b ha hb => better84 ha hb
  have hpt : (ledT N D f).pure = true := pure_ledT
  obtain ⟨c, hc, c1, c2, c3, c4, c5⟩ := led_cells (N := N) (D := D) (f := f)
  obtain ⟨c3l, c3'⟩ := List.getElem?_eq_some_iff.1 c3
  obtain ⟨c5l, c5'⟩ := List.getElem?_eq_some_iff.1 c5
  have hQl := prcL_len (N := N) (D := D)
  have hQ : ∀ s, s < 2 ^ N → (prcL N D)[s]? = some (prP (balF D) N s) := fun s hs => o_some (o := prcL N D) (j := s) (by rw [hQl]; exact hs)
  have hsm : ∀ s, s < 2 ^ N → s < 1024 := fun s hs => Nat.lt_of_lt_of_le hs hp.2
  rw [hc] at hA hev hpt hbet ⊢
  generalize hF : balF D = F at *
  generalize prcL N D = Q at *
  refine ab_seq_k fun K1 h1 => ?_
  simp
  refine h1 _ _ _ ?_
  clear h1 K1
  refine ab_seq_k fun K2 h2 => ?_
  simp
  refine h2 _ _ _ ?_
  clear h2 K2
  refine ab_seq_k fun K3 h3 => ?_
  simp
  refine callK_of (hA _) ?_
  simp
  refine h3 _ _ _ ?_
  clear h3 K3
  refine ab_seq_k fun K4 h4 => ?_
  refine ab_seq_k fun K5 h5 => ?_
  simp
  refine h5 _ _ _ ?_
  clear h5 K5
  refine ab_block_k fun K6 h6 => ?_
  refine ab_loop_k (fun m env σ => ∃ (o : List Nat) (t : Nat) (v : V), Chain F N o t m ∧ FinG F N o t m o' ∧ env = [(1, .p 0 0 0), (3, v), (4, .i .i64 t), (5, .i .i64 m)] ∧ σ[0]? = some (.row 0 [.sp c 0]) ∧ Gr 1 1 σ v o.length (ints (ofN o))) top
    ⟨[], top, .ss [] 0 true, hs0, hfin, by simp, rfl, Gr.nil⟩ ?_
  clear hs0 hfin
  rintro s env σ ⟨o, t, v, hC, hfin, rfl, hσ0, hv⟩ K7 h7
  obtain ⟨hs0, s0'⟩ := List.getElem?_eq_some_iff.1 hσ0
  have hsW := hC.slt
  have htW := hC.lt
  have hsW2 := hsm _ hsW
  have htW2 := hsm _ htW
  rw [ic64_1]
  refine ab_seq_k fun K8 h8 => ?_
  refine ab_seq_k fun K9 h9 => ?_
  simp
  refine h9 _ _ _ ?_
  clear h9 K9
  refine ab_cond_of rfl (fun hc2 => ?_) (fun hc2 => ?_)
  · have hsz : s ≠ 0 := by simp at hc2; omega
    simp
    refine h8 _ _ _ ?_
    clear h8 K8
    refine ab_block_k fun K10 h10 => ?_
    refine ab_seq_k fun K11 h11 => ?_
    simp
    refine h11 _ _ _ ?_
    clear h11 K11
    refine ab_seq_k fun K12 h12 => ?_
    refine ab_seq_k fun K13 h13 => ?_
    simp [hσ0, s0', c1, c3, c3']
    refine h13 _ _ _ ?_
    clear h13 K13
    refine ab_block_k fun K14 h14 => ?_
    refine ab_loop_k (fun m env σ => ∃ (k : Nat) (w : V), k + m = N ∧ env = [(1, .p 0 0 0), (3, v), (4, .i .i64 t), (5, .i .i64 s), (6, w), (18, .i .i64 N), (19, .i .i64 k)] ∧ σ[0]? = some (.row 0 [.sp c 0]) ∧ Gr 1 1 σ v o.length (ints (ofN o)) ∧ Gr 1 1 σ w (dropsL s k).length (ints (ofN (dropsL s k))) ∧ Dj v w) N
      ⟨0, .ss [] 0 true, by omega, by simp, hσ0, hv, Gr.nil, fun j h1 h2 => by cases h2⟩ ?_
    clear hσ0 hv hs0 s0'
    rintro m env σ2 ⟨k, w, hk, rfl, hσ0, hv, hw, hdj⟩ K15 h15
    obtain ⟨hs0, s0'⟩ := List.getElem?_eq_some_iff.1 hσ0
    rw [ic64_0]
    refine ab_seq_k fun K16 h16 => ?_
    simp
    refine h16 _ _ _ ?_
    clear h16 K16
    refine ab_seq_k fun K17 h17 => ?_
    refine ab_cond_of rfl (fun hc3 => ?_) (fun hc3 => ?_)
    · have hkN : k < N := by simpa using hc3
      have hbk := bit_eq (s := s) (m := k) (by omega) (by omega)
      have hds := dropsL_succ (s := s) (k := k)
      have hdl := dropsL_len (s := s) (k := k)
      simp
      refine h17 _ _ _ ?_
      clear h17 K17
      refine ab_seq_k fun K18 h18 => ?_
      refine ab_block_k fun K19 h19 => ?_
      refine ab_seq_k fun K20 h20 => ?_
      simp
      refine h20 _ _ _ ?_
      clear h20 K20
      refine ab_seq_k fun K21 h21 => ?_
      simp [hbk]
      refine h21 _ _ _ ?_
      clear h21 K21
      have hend : ∀ env σ w, get env 1 = .p 0 0 0 → get env 3 = v → get env 4 = .i .i64 t → get env 5 = .i .i64 s → get env 6 = w → get env 18 = .i .i64 N → get env 19 = .i .i64 k → σ[0]? = some (.row 0 [.sp c 0]) → Gr 1 1 σ v o.length (ints (ofN o)) → Gr 1 1 σ w (dropsL s (k + 1)).length (ints (ofN (dropsL s (k + 1)))) → Dj v w → K19 (some 0) env σ := by
        intro env σ w w1 w3 w4 w5 w6 w18 w19 a1 a2 a3 a4
        refine h19 _ _ _ ?_
        refine h18 _ _ _ ?_
        simp [w1, w3, w4, w5, w6, w18, w19, wrap64 (x := (k : Int) + 1) (by omega) (by omega)]
        exact h15 _ _ _ (again (m - 1) (by omega) ⟨k + 1, w, by omega, by simp, a1, a2, a3, a4⟩)
      cases hb : s.testBit k with
      | false =>
        rw [hb] at hds
        refine ab_cond_of rfl (fun h => by simp [hb] at h) (fun _ => ?_)
        simp
        exact hend _ _ _ rfl rfl rfl rfl rfl rfl rfl hσ0 hv (by rw [hds]; simpa using hw) hdj
      | true =>
        rw [hb, if_pos rfl] at hds
        refine ab_cond_of rfl (fun _ => ?_) (fun h => by simp [hb] at h)
        have e2 := shl_nat' (m := k) (by omega)
        have e3 : less s (2 ^ k) = drop1 s k := rfl
        have hp1 : 2 ^ k ≤ 1024 := (pow_small (by omega)).2
        generalize 2 ^ k = pk at *
        have e4 := andNot_nat (a := s) (b := pk) (by omega) (by omega)
        rw [e3] at e4
        simp [e2, e4]
        refine appG hw (by omega) (by omega) (by simp) rfl ?_
        intro w2 σ3 hw2 hg2
        simp
        refine hend _ _ _ rfl rfl rfl rfl rfl rfl rfl ?_ (hg2.other hv (Dj.symm hdj)) ?_ (Dj.symm (hg2.dj hv (Dj.symm hdj)))
        · rw [hg2.lt hw (by omega) (by omega)]; exact hσ0
        · rw [hds, ofN_snoc, ints_snoc, List.length_append]; exact hw2
    · have hkN : k = N := by simp at hc3; omega
      subst hkN
      obtain ⟨hnI, i, hi, hn, hpn⟩ := next_ok (F := F) hsW hsz
      obtain ⟨x, r, hL⟩ := drops_ne hsW hsz
      have hI : nextI F k s = bestL (betP F k) x r := by unfold nextI; rw [hL]
      have hnlt : nextS F k s < s := by rw [hn]; exact drop1_lt hi
      have hwl : (dropsL s k).length = r.length + 1 := by rw [← ofN_len, hL]; rfl
      rw [hL, hwl] at hw
      obtain ⟨id, ver, -, hid, rfl, hrow, hidl⟩ := hw.cases.resolve_left (by omega)
      have hmem : ∀ a ∈ x :: r, ∃ a' : Nat, a = (a' : Int) ∧ a' < 2 ^ k := fun a ha => by
        rw [← hL] at ha
        obtain ⟨a', ha', rfl⟩ := List.mem_map.1 ha
        obtain ⟨i2, -, hb2, rfl⟩ := dropsL_mem.1 ha'
        exact ⟨_, rfl, Nat.lt_trans (drop1_lt hb2) hsW⟩
      have hcall : FSpec Try.prog 83 [.s id ver 0 (r.length + 1) 1, .f (.func 84) [] [.p 0 0 0]] σ2 (.i .i64 (nextS F k s)) σ2 := by
        refine FSpec.frozen 3 ?_ rfl
        have q1 : frz 3 0 σ2 (.s id ver 0 (r.length + 1) 1) = sl (x :: r) false := frz_ints (k := 1) (l := x :: r) hrow (Nat.zero_le _)
        have q2 : frz 3 0 σ2 (.f (.func 84) [] [.p 0 0 0]) = .f (.func 84) [] [.sp [.sp c 0] 0] := frz_clo (k := 0) hσ0 (by rw [pureL_all]; intro x hx; simp at hx; subst hx; exact hpt)
        rw [List.map_cons, List.map_cons, List.map_nil, q1, q2, ← hnI, hI]
        refine best83 (first := []) (cap := [.sp [.sp c 0] 0]) (fun a ha b hb => ?_) (by have := dropsL_len (s := s) (k := k); omega)
        obtain ⟨a', rfl, ha'⟩ := hmem a ha
        obtain ⟨b', rfl, hb'⟩ := hmem b hb
        have := hbet a' b' ha' hb'
        simpa [betP] using this
      have hnW : nextS F k s < 2 ^ k := Nat.lt_trans hnlt hsW
      have hnW2 := hsm _ hnW
      have hnx := hC.next hi hn hpn
      have hevn := hev (nextS F k s) hnW
      have hQn := hQ _ hnW
      have hQt := hQ _ htW
      obtain ⟨hQnl, hQn'⟩ := List.getElem?_eq_some_iff.1 hQn
      obtain ⟨hQtl, hQt'⟩ := List.getElem?_eq_some_iff.1 hQt
      have hcut := hC.cut hi hn hpn
      have hskip := hC.skip hi hn hpn
      have hinv : ((nextS F k s = 0 ∨ evF F k (nextS F k s) = true) ∧ FinG F k (o ++ [less t (nextS F k s)]) (nextS F k s) (nextS F k s) o') ∨ (¬ (nextS F k s = 0 ∨ evF F k (nextS F k s) = true) ∧ FinG F k o t (nextS F k s) o') := by
        cases hfin with
        | stop => exact absurd rfl hsz
        | cut _ a b => exact .inl ⟨a, b⟩
        | skip _ a b => exact .inr ⟨a, b⟩
      have ea := andNot_nat (a := t) (b := nextS F k s) (by omega) (by omega)
      have hlp : prP F k (nextS F k s) < prP F k t := by omega
      clear hnI hI hn hpn hL hmem hw hrow hfin
      generalize nextS F k s = n at *
      have hoN := hC.len
      simp
      refine h14 _ _ _ ?_
      refine h12 _ _ _ ?_
      clear h12 h14 h15 h17 K12 K14 K15 K17
      refine ab_seq_k fun K22 h22 => ?_
      simp
      refine callK_of (hcall) ?_
      simp
      refine h22 _ _ _ ?_
      clear h22 K22
      refine ab_seq_k fun K23 h23 => ?_
      have hend : ∀ env σ (o : List Nat) (t : Nat) v, get env 1 = .p 0 0 0 → get env 3 = v → get env 4 = .i .i64 t → get env 8 = .i .i64 n → Chain F k o t n → FinG F k o t n o' → σ[0]? = some (.row 0 [.sp c 0]) → Gr 1 1 σ v o.length (ints (ofN o)) → K23 (some 0) env σ := by
        intro env σ o t v w1 w3 w4 w8 a1 a2 a3 a4
        refine h23 _ _ _ ?_
        simp [w1, w3, w4, w8]
        refine h10 _ _ _ ?_
        exact h7 _ _ _ (again n hnlt ⟨o, t, v, a1, a2, rfl, a3, a4⟩)
      refine ab_seq_k fun K24 h24 => ?_
      have hK : ∀ env, get env 1 = .p 0 0 0 → get env 3 = v → get env 4 = .i .i64 t → get env 8 = .i .i64 n → get env 61 = .b (decide (n = 0 ∨ evF F k n = true)) → K24 (some 0) env σ2 := by
        intro env w1 w3 w4 w8 w61
        refine h24 _ _ _ ?_
        clear h24 K24
        refine ab_cond_of w61 (fun hb => ?_) (fun hb => ?_)
        · have hb := of_decide_eq_true hb
          have hF2 := (hinv.resolve_right (fun h => h.1 hb)).2
          refine ab_seq_k fun K25 h25 => ?_
          simp [w1, w3, w4, w8]
          refine lenG hv ?_
          simp [w1, w3, w4, w8]
          refine lenG hv ?_
          simp [w1, w3, w4, w8]
          refine slcG hv ?_
          simp [w1, w3, w4, w8, ea]
          refine appG hv (by omega) (by omega) (by simp) rfl ?_
          intro v2 σ3 hv2 hg2
          simp [w1, w3, w4, w8]
          refine h25 _ _ _ ?_
          simp
          refine hend _ _ (o ++ [less t n]) n v2 rfl rfl rfl rfl (hcut hb) hF2 ?_ ?_
          · rw [hg2.lt hv (by omega) (by omega)]; exact hσ0
          · rw [ofN_snoc, ints_snoc, List.length_append]; exact hv2
        · have hb := of_decide_eq_false hb
          have hF2 := (hinv.resolve_left (fun h => hb h.1)).2
          simp [w1, w3, w4, w8]
          exact hend _ _ o t v (by simp [w1]) (by simp [w3]) (by simp [w4]) (by simp [w8]) (hskip (fun h => hb (.inl h)) (by cases q : evF F k n with | false => rfl | true => exact absurd (.inr q) hb)) hF2 hσ0 hv
      by_cases hz : n = 0
      · simp [abDs_consU, drU, recheck_cons, recheck_nil, rcK, IS.dst, hz]
        exact hK _ rfl rfl rfl (by rw [hz]; rfl) (by simp [hz])
      · simp [abDs_consU, drU, recheck_cons, recheck_nil, rcK, IS.dst, hz, hσ0, s0']
        refine callK_of (hevn _) ?_
        cases hq : evF F k n with
        | false =>
          simp [abDs_consU, drU, recheck_cons, recheck_nil, rcK, IS.dst, hz, hσ0, s0']
          exact hK _ rfl rfl rfl rfl (by simp [hz, hq])
        | true =>
          simp [abDs_consU, drU, recheck_cons, recheck_nil, rcK, IS.dst, hz, hσ0, s0', c1, c5, c5', hQnl, hQn, hQn', hQtl, hQt, hQt', hlp]
          exact hK _ rfl rfl rfl rfl (by simp [hq])
  · have hsz : s = 0 := by simp at hc2; omega
    subst hsz
    have ho : o' = o := by
      cases hfin with
      | stop => rfl
      | cut a _ _ => exact absurd rfl a
      | skip a _ _ => exact absurd rfl a
    subst ho
    have hoN := hC.len
    have h1 := hch.one 0 (by omega)
    have hne : o'.length ≠ 0 := fun h => by
      rw [List.length_eq_zero_iff] at h
      rw [h] at h1
      simp [cntB] at h1
    obtain ⟨id, ver, -, hid, rfl, hrow, hidl⟩ := hv.cases.resolve_left (by omega)
    obtain ⟨hrow0, hrow'⟩ := List.getElem?_eq_some_iff.1 hrow
    simp
    refine h6 _ _ _ ?_
    refine h4 _ _ _ ?_
    have hsrt := sort94 (l := ofN o') hrow (by rw [ofN_len]; omega) (by rw [ofN_len]; omega)
    rw [ofN_len] at hsrt
    have hcall := sort85 (n := o'.length) (by omega) (fun C hC => by simpa [liveV, hrow, hrow'] using hC) hsrt
    refine ab_seq_k fun K30 h30 => ?_
    simp
    refine callK_of (hcall) ?_
    simp
    refine h30 _ _ _ ?_
    clear h30 K30
    refine ab_seq_k fun K31 h31 => ?_
    simp
    refine h31 _ _ _ ?_
    clear h31 K31
    simp
    refine fin_of 2 ?_
    simp [-frz, rs64]
    have hz := frz_ints (k := 0) (n := 0) (id := id) (ver := ver) (σ := σ.set id (.row ver (ints (sortB ltI (ofN o'))))) (l := sortB ltI (ofN o')) (List.getElem?_set_self hidl) (Nat.zero_le _)
    rw [sortB_len, ofN_len] at hz
    rw [hz]
    simp [sl, sortB_len]
end Go.Ab
