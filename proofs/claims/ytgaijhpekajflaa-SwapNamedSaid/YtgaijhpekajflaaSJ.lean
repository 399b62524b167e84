/- newLedger: plain, and the walk. -/
import Derived.Test.YtgaijhpekajflaaSI
set_option linter.unusedVariables false
set_option linter.unusedSimpArgs false
set_option maxHeartbeats 4000000
set_option maxRecDepth 100000
namespace Go.Ab
open Go Go.Proofs

def entS (F : Nat → Int) (N s : Nat) : Ent := (s, [(s : Int)], .i .i64 (sumF F s N))
def entsTo (F : Nat → Int) (N i : Nat) : List Ent := (List.range i).map (entS F N)
theorem entsTo_succ {F : Nat → Int} {N i : Nat} : entsTo F N (i + 1) = entsTo F N i ++ [(i, [(i : Int)], .i .i64 (sumF F i N))] := by simp [entsTo, entS, List.range_succ]
theorem entsTo_mem {F : Nat → Int} {N i : Nat} {e : Ent} : e ∈ entsTo F N i ↔ ∃ s, s < i ∧ e = entS F N s := by
  simp only [entsTo, List.mem_map, List.mem_range]
  constructor <;> (rintro ⟨s, h1, h2⟩; exact ⟨s, h1, h2.symm⟩)
theorem entsTo_ok {F : Nat → Int} {N i : Nat} : MapOK 1 (entsTo F N i) i := by
  refine ⟨by omega, fun e he => ?_, ?_, ?_, fun e he => ?_⟩
  · obtain ⟨s, -, rfl⟩ := entsTo_mem.1 he; rfl
  · unfold entsTo
    rw [List.map_map]
    refine List.Pairwise.map _ (fun a b hab h => hab ?_) (List.nodup_range (n := i))
    simp [entS] at h
    omega
  · unfold entsTo
    rw [List.map_map]
    refine List.Pairwise.map _ (fun a b hab h => hab ?_) (List.nodup_range (n := i))
    simpa [entS] using h
  · obtain ⟨s, hs, rfl⟩ := entsTo_mem.1 he; exact hs
theorem entsTo_none {F : Nat → Int} {N i : Nat} : lk (entsTo F N i) [(i : Int)] = none := by
  rw [lk_none]
  intro h
  obtain ⟨e, he, h2⟩ := List.mem_map.1 h
  obtain ⟨s, hs, rfl⟩ := entsTo_mem.1 he
  simp [entS] at h2
  omega
/-- A set with at least one mill whose balances sum up to 0. -/
def evF (F : Nat → Int) (N s : Nat) : Bool := decide (s ≠ 0) && decide (sumF F s N = 0)
def goodE (F : Nat → Int) (N : Nat) (e : Ent) : Bool := evF F N e.1
def leftE (F : Nat → Int) (N : Nat) (seen : List Nat) (e : Ent) : Bool := !(decide (e.1 ∈ seen) && !goodE F N e)
def evens (F : Nat → Int) (N : Nat) : List Ent := (entsTo F N (2 ^ N)).filter (goodE F N)
theorem evens_len {F : Nat → Int} {N : Nat} : ∀ e ∈ evens F N, e.2.1.length = 1 := fun e he => entsTo_ok.len e (List.mem_filter.1 he).1
theorem evB_is {F : Nat → Int} {N s : Nat} (hs : s < 2 ^ N) : evB (evens F N) s = evF F N s := by
  unfold evB
  have hmem : entS F N s ∈ entsTo F N (2 ^ N) := entsTo_mem.2 ⟨s, hs, rfl⟩
  cases h : evF F N s with
  | true =>
    have hin : entS F N s ∈ evens F N := List.mem_filter.2 ⟨hmem, h⟩
    cases hl : lk (evens F N) [(s : Int)] with
    | some v => rfl
    | none => exact absurd (List.mem_map.2 ⟨_, hin, rfl⟩) (lk_none.1 hl)
  | false =>
    have : lk (evens F N) [(s : Int)] = none := by
      rw [lk_none]
      intro hm
      obtain ⟨e, he, h2⟩ := List.mem_map.1 hm
      obtain ⟨h3, h4⟩ := List.mem_filter.1 he
      obtain ⟨s', hs', rfl⟩ := entsTo_mem.1 h3
      simp [entS] at h2
      have : s' = s := by omega
      subst this
      have h5 : evF F N s' = true := h4
      rw [h] at h5
      cases h5
    rw [this]; rfl

/-! ### Prices -/
def mxP (L : List Int) (s : Nat) : Nat → Int
  | 0 => 0
  | m + 1 => if s.testBit m then max (mxP L s m) (L.getD (drop1 s m) 0) else mxP L s m
def stepP (ev : Nat → Bool) (N : Nat) (L : List Int) (s : Nat) : Int := mxP L s N + (if ev s then 1 else 0)
/-- The prices of so many sets. -/
def prL (ev : Nat → Bool) (N : Nat) : Nat → List Int
  | 0 => []
  | 1 => [0]
  | k + 2 => prL ev N (k + 1) ++ [stepP ev N (prL ev N (k + 1)) (k + 1)]
@[simp] theorem prL_len {ev N} : ∀ {k}, (prL ev N k).length = k
  | 0 => rfl
  | 1 => rfl
  | k + 2 => by rw [prL, List.length_append, prL_len]; rfl
theorem prL_succ {ev N k} (h : 1 ≤ k) : prL ev N (k + 1) = prL ev N k ++ [stepP ev N (prL ev N k) k] := by
  obtain ⟨j, rfl⟩ : ∃ j, k = j + 1 := ⟨k - 1, by omega⟩
  rfl
theorem mxP_b {L : List Int} {s : Nat} {B : Int} (hB : 0 ≤ B) (h : ∀ x ∈ L, 0 ≤ x ∧ x ≤ B) : ∀ m, 0 ≤ mxP L s m ∧ mxP L s m ≤ B
  | 0 => by simp [mxP]; exact hB
  | m + 1 => by
    have ih := mxP_b hB h (s := s) m
    have hg : 0 ≤ L.getD (drop1 s m) 0 ∧ L.getD (drop1 s m) 0 ≤ B := by
      rw [List.getD_eq_getElem?_getD]
      cases hx : L[drop1 s m]? with
      | none => simp; exact hB
      | some x => exact h x (List.mem_of_getElem? hx)
    simp only [mxP]
    split <;> omega
theorem prL_b {ev N} : ∀ k, ∀ x ∈ prL ev N k, 0 ≤ x ∧ x ≤ k
  | 0 => by simp [prL]
  | 1 => by simp [prL]
  | k + 2 => by
    intro x hx
    have ih := prL_b (ev := ev) (N := N) (k + 1)
    rw [prL] at hx
    rcases List.mem_append.1 hx with hx | hx
    · have := ih x hx; omega
    · simp only [List.mem_singleton] at hx
      subst hx
      have := mxP_b (s := k + 1) (by omega) ih N
      unfold stepP
      split <;> omega

abbrev ledV (n : Int) (D : List Db) (f : Bool) (F : Nat → Int) (E : List Ent) (P : List Int) : V := .sp (ledC n D f F (.sm ((mpV E).map (·.2))) (sl P false)) 0
theorem pure_mpV {E : List Ent} (h : ∀ e ∈ E, e.2.2.pure = true) : (V.sm ((mpV E).map (·.2))).pure = true := by
  show pureM _ = true
  rw [pureM_all]
  intro e he
  obtain ⟨x, hx, rfl⟩ := List.mem_map.1 he
  unfold mpV at hx
  obtain ⟨y, hy, rfl⟩ := List.mem_map.1 hx
  refine ⟨?_, h y hy⟩
  show pureL (y.2.1.map (V.i .i64)) = true
  exact pure_ints (l := y.2.1)

/-- The heap of a ledger that is being made. -/
structure HpL (N : Nat) (D : List Db) (f : Bool) (F : Nat → Int) (mid lid bid : Nat) (E : List Ent) (c : Nat) (prs : V) (σ : List O) : Prop where
  b : σ[0]? = some (.row 0 (bookC N D f))
  x : σ[bid]? = some (.row 0 [.p lid 0 0])
  l : σ[lid]? = some (.row 0 (ledC N D f F (.m mid) prs))
  m : σ[mid]? = some (.map (mpV E) c)

theorem even69m {N mid lid bid c s pid W : Nat} {D f F} {E : List Ent} {P : List Int} {σ : List O} (hH : HpL N D f F mid lid bid E c (.s pid 0 0 W 1) σ) (hE : ∀ e ∈ E, e.2.1.length = 1 ∧ e.2.2.pure = true) (hp : σ[pid]? = some (.row 0 (ints P))) (hW : P.length = W) :
    FSpec Try.prog 69 [.p lid 0 0, .i .i64 s] σ (.b (evB E s)) σ := by
  refine FSpec.frozen 4 ?_ rfl
  simp only [List.map_cons, List.map_nil]
  have h1 := frz_mp (k := 1) (n := 0) hH.m (Nat.zero_le _) (fun e he => (hE e he).2)
  have h2 := frz_ints (k := 1) (n := 0) hp (Nat.zero_le _)
  rw [hW] at h2
  rw [frz_led (k := 2) hH.l, h1, h2, frz_pure rfl]
  exact even69 (fun e he => (hE e he).1) (by simp)
def rowAt (ev : Nat → Bool) (N W s : Nat) (x : Int) : List Int := prL ev N s ++ x :: List.replicate (W - s - 1) 0
@[simp] theorem rowAt_len {ev N W s x} (h : s < W) : (rowAt ev N W s x).length = W := by simp [rowAt]; omega
theorem rowAt_get {ev N W s x} : (rowAt ev N W s x)[s]? = some x := by
  unfold rowAt
  rw [List.getElem?_append_right (by simp)]
  simp
theorem rowAt_low {ev N W s x j} (h : j < s) : (rowAt ev N W s x)[j]? = some ((prL ev N s).getD j 0) := by
  unfold rowAt
  rw [List.getElem?_append_left (by simpa using h), List.getD_eq_getElem?_getD, List.getElem?_eq_getElem (by simpa using h)]
  rfl
theorem rowAt_set {ev N W s x y} : (rowAt ev N W s x).set s y = rowAt ev N W s y := by
  unfold rowAt
  rw [List.set_append_right _ _ (by simp)]
  simp
theorem rowAt_next {ev N W s} (h1 : 1 ≤ s) (h : s + 1 < W) : rowAt ev N W s (stepP ev N (prL ev N s) s) = rowAt ev N W (s + 1) 0 := by
  unfold rowAt
  rw [prL_succ h1, List.append_assoc, show W - s - 1 = (W - (s + 1) - 1) + 1 by omega, List.replicate_succ]
  rfl
theorem rowAt_last {ev N W s} (h1 : 1 ≤ s) (h : s + 1 = W) : rowAt ev N W s (stepP ev N (prL ev N s) s) = prL ev N W := by
  unfold rowAt
  rw [← h, prL_succ h1, show s + 1 - s - 1 = 0 by omega]
  rfl

theorem newLedger82 {N M W : Nat} {D : List Db} {f : Bool} (hW : 2 ^ N = W) (hN1 : 1 ≤ N) (hN : N ≤ 10) (hD : DbOK N 1000000 D) (hl : D.length ≤ 40) : FSpec Try.prog 82 [bookV N D f] [] (ledV N D f (balF D) (evens (balF D) N) (prL (evF (balF D) N) N W)) [] := by
  have hF : ∀ i, -2000000000 ≤ balF D i ∧ balF D i ≤ 2000000000 := fun i => by
    have h1 := balF_small (by omega) (by omega) hD (by omega) i D.length (Nat.le_refl _)
    rwa [List.take_length] at h1
  have hb57 := fun σ => FSpec.frame (σ := σ) (balances57 (D := D) (f := f) (M := 1000000) (by omega) (by omega) (hD.ten (by omega)) (by omega)) (by simp) (by simp)
  generalize balF D = F at *
  refine fn82.spec0 mixed itT_ok ?_
  rw [ic82]
  refine ab_seq_k fun K1 h1 => ?_
  simp
  refine h1 _ _ _ ?_
  clear h1 K1
  refine ab_seq_k fun K2 h2 => ?_
  have hK2 : ∀ (mid lid bid : Nat) (σ : List O), HpL N D f F mid lid bid [] 0 (.ss [] 0 true) σ → σ.length = 4 → 0 < mid → 0 < lid → 0 < bid → mid ≠ lid → mid ≠ bid → lid ≠ bid → K2 (some 0) [(1, .p 0 0 0), (3, .p bid 0 0)] σ := by
    intro mid lid bid σ hH hl4 m0 l0 b0 ml mb lb
    refine h2 _ _ _ ?_
    clear h2 K2 hb57
    obtain ⟨hb, hx, hle, hm⟩ := hH
    obtain ⟨hxl, hx'⟩ := List.getElem?_eq_some_iff.1 hx
    have b4 : bid < 4 := by rw [← hl4]; exact hxl
    have l4 : lid < 4 := by rw [← hl4]; exact (List.getElem?_eq_some_iff.1 hle).1
    have m4 : mid < 4 := by rw [← hl4]; exact (List.getElem?_eq_some_iff.1 hm).1
    refine ab_seq_k fun K3 h3 => ?_
    refine ab_seq_k fun K4 h4 => ?_
    simp [hx, hx']
    refine callK_of sums90 ?_
    simp
    refine h4 _ _ _ ?_
    clear h4 K4
    refine ab_block_k fun K5 h5 => ?_
    have hxi := (List.getElem?_eq_some_iff.1 hx).1
    have hli := (List.getElem?_eq_some_iff.1 hle).1
    have hmi := (List.getElem?_eq_some_iff.1 hm).1
    refine ⟨W, XS N F, SumAt N D f F 4 lid, by rw [hl4]; exact sums_it hN hW hF, fun i σ2 => HpL N D f F mid lid bid (entsTo F N i) i (.ss [] 0 true) σ2 ∧ σ2[4]? = some (.row 0 [.p lid 0 0]) ∧ σ2.length = 5, fun i σ2 ⟨h, h4, _⟩ => ⟨h4, _, _, h.l⟩, ⟨⟨app_get hb, app_get hx, app_get hle, app_get hm⟩, by rw [← hl4]; simp, by simp [hl4]⟩, ?_, ?_⟩
    · rintro i x σ2 g hi ⟨rfl, rfl⟩ ⟨hq, hq4, hq5⟩
      refine ⟨rfl, ?_⟩
      generalize hKR : roundK _ _ _ = KR
      rw [List.append_nil]
      obtain ⟨qb, qx, ql, qm⟩ := hq
      obtain ⟨hqx, qx'⟩ := List.getElem?_eq_some_iff.1 qx
      obtain ⟨hql, ql'⟩ := List.getElem?_eq_some_iff.1 ql
      obtain ⟨hqm, -⟩ := List.getElem?_eq_some_iff.1 qm
      refine ab_seq_k fun K6 h6 => ?_
      simp
      refine h6 _ _ _ ?_
      clear h6 K6
      simp
      rw [ic82_0]
      refine ab_block_k fun K7 h7 => ?_
      simp [qx, qx', ql, ql']
      refine msetK_new (n := 1) (k := [(i : Int)]) entsTo_ok qm rfl entsTo_none ?_
      rw [← entsTo_succ]
      simp
      refine h7 _ _ _ ?_
      rw [← hKR]
      refine ⟨rfl, .inl ⟨⟨?_, ?_, ?_, List.getElem?_set_self hqm⟩, ?_, by simpa using hq5⟩⟩
      · rw [List.getElem?_set_ne (by omega)]; exact qb
      · rw [List.getElem?_set_ne (by omega)]; exact qx
      · rw [List.getElem?_set_ne (by omega)]; exact ql
      · rw [List.getElem?_set_ne (by omega)]; exact hq4
    · rintro σ2 ⟨hq, hq4, hq5⟩
      refine h5 _ _ _ ?_
      refine h3 _ _ _ ?_
      clear h3 h5 hb hx hle hm hxl hx' hl4
      clear hxi hli hmi
      generalize hE : entsTo F N W = E at hq
      have hEok : MapOK 1 E W := by rw [← hE]; exact entsTo_ok
      have hEm : ∀ e ∈ E, ∃ s, s < W ∧ e = entS F N s := fun e he => entsTo_mem.1 (by rw [hE]; exact he)
      obtain ⟨qb, qx, ql, qm⟩ := hq
      obtain ⟨hqx, qx'⟩ := List.getElem?_eq_some_iff.1 qx
      obtain ⟨hql, ql'⟩ := List.getElem?_eq_some_iff.1 ql
      refine ab_seq_k fun K8 h8 => ?_
      refine ab_seq_k fun K9 h9 => ?_
      simp [qx, qx', ql, ql']
      refine rng_K qm ?_
      simp
      refine h9 _ _ _ ?_
      clear h9 K9
      refine ab_block_k fun K10 h10 => ?_
      refine ab_loop_k (fun m env σ => ∃ seen : List Nat, (E.filter fun e => decide (e.1 ∉ seen)).length = m ∧ env = [(1, .p 0 0 0), (3, .p bid 0 0), (33, .p 5 0 0)] ∧ HpL N D f F mid lid bid (E.filter (leftE F N seen)) W (.ss [] 0 true) σ ∧ σ[5]? = some (.it mid W seen W)) _
        ⟨[], rfl, by simp [hq5], by
          have e0 : (E.filter (leftE F N [])) = E := by rw [List.filter_eq_self]; intro e _; simp [leftE]
          rw [e0]
          exact ⟨app_get qb, app_get qx, app_get ql, app_get qm⟩, by rw [← hq5]; simp⟩ ?_
      clear qb qx ql qm hqx qx' hql ql' hq4 hq5 σ2
      rintro m env σ ⟨seen, hm, rfl, ⟨qb, qx, ql, qm⟩, qi⟩ K11 h11
      obtain ⟨hqx, qx'⟩ := List.getElem?_eq_some_iff.1 qx
      obtain ⟨hql, ql'⟩ := List.getElem?_eq_some_iff.1 ql
      obtain ⟨hqi, -⟩ := List.getElem?_eq_some_iff.1 qi
      have hFok := hEok.filter (p := leftE F N seen)
      rw [ic82_1]
      refine ab_seq_k fun K12 h12 => ?_
      simp
      refine nxt_K qi qm ?_ ?_ ?_
      · intro e he
        unfold mpV at he
        obtain ⟨x, hx, rfl⟩ := List.mem_map.1 he
        exact hFok.lt x hx
      · intro hall
        simp
        refine h12 _ _ _ ?_
        refine ab_seq_k fun K13 h13 => ?_
        refine ab_cond_of rfl (fun h => by cases h) (fun _ => ?_)
        simp
        refine h10 _ _ _ ?_
        refine h8 _ _ _ ?_
        clear h8 h10 h11 h12 h13
        have hev : (E.filter (leftE F N seen)) = evens F N := by
          have : evens F N = E.filter (goodE F N) := by rw [evens, hW, hE]
          rw [this]
          refine List.filter_congr fun e he => ?_
          unfold leftE at hall ⊢
          cases hg : goodE F N e with
          | true => simp
          | false =>
            by_cases hs : e.1 ∈ seen
            · simp [hs]
            · exfalso
              exact hs (hall _ (List.mem_map.2 ⟨e, List.mem_filter.2 ⟨he, by simp [hs]⟩, rfl⟩))
        rw [hev] at qm
        have hq5 : 5 < σ.length := hqi
        clear hm qi hqi hall hE hEok hEm hFok hev m seen
        have hpw := pow_small hN
        rw [hW] at hpw
        have hW2 : 2 ≤ W := by
          rw [← hW]
          exact Nat.pow_le_pow_right (n := 2) (by omega) hN1
        have hevp : ∀ e ∈ evens F N, e.2.1.length = 1 ∧ e.2.2.pure = true := fun e he => by
          obtain ⟨s, -, rfl⟩ := entsTo_mem.1 (List.mem_filter.1 he).1
          exact ⟨rfl, rfl⟩
        have hevB : ∀ s, s < W → evB (evens F N) s = evF F N s := fun s hs => evB_is (by rw [hW]; exact hs)
        refine ab_seq_k fun K20 h20 => ?_
        simp [qx, qx']
        refine h20 _ _ _ ?_
        clear h20 K20
        refine ab_seq_k fun K21 h21 => ?_
        have er : rep W [V.i IntKind.i64 0] = ints (rowAt (evF F N) N W 1 0 |>.set 0 0) := by
          have : (rowAt (evF F N) N W 1 0).set 0 0 = List.replicate W 0 := by
            obtain ⟨w, rfl⟩ : ∃ w, W = w + 2 := ⟨W - 2, by omega⟩
            simp [rowAt, prL, List.replicate_succ]
          rw [this]; simp [rep, ints, List.flatten_replicate_singleton]
        have er2 : (rowAt (evF F N) N W 1 0).set 0 0 = rowAt (evF F N) N W 1 0 := by simp [rowAt, prL]
        rw [er2] at er
        clear er2
        simp [abDs_consU, drU, recheck_cons, recheck_nil, rcK, IS.dst, qx, qx']
        refine callK_of (all63m hN hW ql) ?_
        simp [abDs_consU, drU, recheck_cons, recheck_nil, rcK, IS.dst, qx, qx', ql, ql', wrap64 (x := (W : Int)) (by omega) (by omega)]
        have px := app_get (g := [O.row 0 (rep W [V.i IntKind.i64 0])]) qx
        have pl := app_get (g := [O.row 0 (rep W [V.i IntKind.i64 0])]) ql
        have pb := app_get (g := [O.row 0 (rep W [V.i IntKind.i64 0])]) qb
        have pm := app_get (g := [O.row 0 (rep W [V.i IntKind.i64 0])]) qm
        have pp : (σ ++ [O.row 0 (rep W [V.i IntKind.i64 0])])[σ.length]? = some (O.row 0 (ints (rowAt (evF F N) N W 1 0))) := by rw [er]; simp
        have hpid : 5 < σ.length := hq5
        clear qx' ql' qx ql qb qm hqx hql hq5
        generalize σ ++ [O.row 0 (rep W [V.i IntKind.i64 0])] = U at *
        generalize σ.length = pid at *
        obtain ⟨hpx, px'⟩ := List.getElem?_eq_some_iff.1 px
        obtain ⟨hpl, pl'⟩ := List.getElem?_eq_some_iff.1 pl
        simp [abDs_consU, drU, recheck_cons, recheck_nil, rcK, IS.dst, px, px', pl, pl', ledC_set13]
        refine ⟨by omega, by omega, ?_⟩
        have hH : HpL N D f F mid lid bid (evens F N) W (.s pid 0 0 W 1) (U.set lid (O.row 0 (ledC N D f F (.m mid) (.s pid 0 0 W 1)))) := ⟨by rw [List.getElem?_set_ne (by omega)]; exact pb, by rw [List.getElem?_set_ne (by omega)]; exact px, List.getElem?_set_self hpl, by rw [List.getElem?_set_ne (by omega)]; exact pm⟩
        have hP : (U.set lid (O.row 0 (ledC N D f F (.m mid) (.s pid 0 0 W 1))))[pid]? = some (O.row 0 (ints (rowAt (evF F N) N W 1 0))) := by rw [List.getElem?_set_ne (by omega)]; exact pp
        generalize U.set lid (O.row 0 (ledC N D f F (.m mid) (.s pid 0 0 W 1))) = Z at *
        refine h21 _ _ _ ?_
        clear h21 K21 px px' pl pl' pb pm pp hpx hpl U
        refine ab_seq_k fun K22 h22 => ?_
        refine ab_seq_k fun K23 h23 => ?_
        simp
        refine h23 _ _ _ ?_
        clear h23 K23
        refine ab_block_k fun K24 h24 => ?_
        refine ab_loop_k (fun m env σ => ∃ s : Nat, s + m = W ∧ 1 ≤ s ∧ env = [(1, .p 0 0 0), (3, .p bid 0 0), (8, .f (.func 69) [.p lid 0 0] []), (9, .i .i64 s)] ∧ HpL N D f F mid lid bid (evens F N) W (.s pid 0 0 W 1) σ ∧
          σ[pid]? = some (O.row 0 (ints (if s < W then rowAt (evF F N) N W s 0 else prL (evF F N) N W)))) (W - 1) ⟨1, by omega, by omega, by simp, hH, by rw [if_pos (by omega)]; exact hP⟩ ?_
        clear hH hP Z
        rintro m env Z ⟨s, hs, hs1, rfl, hH, hP⟩ K25 h25
        obtain ⟨pb, px, pl, pm⟩ := hH
        obtain ⟨hpx, px'⟩ := List.getElem?_eq_some_iff.1 px
        obtain ⟨hpl, pl'⟩ := List.getElem?_eq_some_iff.1 pl
        rw [ic82_3]
        refine ab_seq_k fun K26 h26 => ?_
        refine ab_seq_k fun K27 h27 => ?_
        simp [px, px']
        refine callK_of (all63m hN hW pl) ?_
        simp
        refine h27 _ _ _ ?_
        clear h27 K27
        refine ab_cond_of rfl (fun hc => ?_) (fun hc => ?_)
        · have hsW : s < W := by have := of_decide_eq_true hc; omega
          rw [if_pos hsW] at hP
          simp
          refine h26 _ _ _ ?_
          clear h26 K26
          refine ab_seq_k fun K28 h28 => ?_
          refine ab_block_k fun K29 h29 => ?_
          refine ab_seq_k fun K30 h30 => ?_
          refine ab_seq_k fun K31 h31 => ?_
          simp [pb, (List.getElem?_eq_some_iff.1 pb).2, get0_bookC]
          refine h31 _ _ _ ?_
          clear h31 K31
          refine ab_block_k fun K32 h32 => ?_
          have hPb := prL_b (ev := evF F N) (N := N) s
          refine ab_loop_k (fun m env σ => ∃ k : Nat, k + m = N ∧ env = [(1, .p 0 0 0), (3, .p bid 0 0), (8, .f (.func 69) [.p lid 0 0] []), (9, .i .i64 s), (67, .i .i64 N), (68, .i .i64 k)] ∧ HpL N D f F mid lid bid (evens F N) W (.s pid 0 0 W 1) σ ∧
            σ[pid]? = some (O.row 0 (ints (rowAt (evF F N) N W s (mxP (prL (evF F N) N s) s k))))) N ⟨0, by omega, by simp, ⟨pb, px, pl, pm⟩, hP⟩ ?_
          clear pb px pl pm hP px' pl' hpx hpl Z
          rintro m2 env Z ⟨k, hk, rfl, ⟨pb, px, pl, pm⟩, hP⟩ K33 h33
          obtain ⟨hpx, px'⟩ := List.getElem?_eq_some_iff.1 px
          obtain ⟨hpl, pl'⟩ := List.getElem?_eq_some_iff.1 pl
          obtain ⟨hPl, hP'⟩ := List.getElem?_eq_some_iff.1 hP
          rw [ic82_2]
          refine ab_seq_k fun K34 h34 => ?_
          simp
          refine h34 _ _ _ ?_
          clear h34 K34
          refine ab_seq_k fun K35 h35 => ?_
          refine ab_cond_of rfl (fun hc2 => ?_) (fun hc2 => ?_)
          · have hkN : k < N := by simpa using hc2
            have hbk := bit_eq (s := s) (m := k) (by omega) (by omega)
            have hmx : mxP (prL (evF F N) N s) s (k + 1) = if s.testBit k then max (mxP (prL (evF F N) N s) s k) ((prL (evF F N) N s).getD (drop1 s k) 0) else mxP (prL (evF F N) N s) s k := rfl
            simp
            refine h35 _ _ _ ?_
            clear h35 K35
            refine ab_seq_k fun K36 h36 => ?_
            refine ab_block_k fun K37 h37 => ?_
            refine ab_seq_k fun K38 h38 => ?_
            simp
            refine h38 _ _ _ ?_
            clear h38 K38
            refine ab_seq_k fun K39 h39 => ?_
            simp [hbk]
            refine h39 _ _ _ ?_
            clear h39 K39
            have hend : ∀ env σ, get env 1 = .p 0 0 0 → get env 3 = .p bid 0 0 → get env 8 = .f (.func 69) [.p lid 0 0] [] → get env 9 = .i .i64 s → get env 67 = .i .i64 N → get env 68 = .i .i64 k → HpL N D f F mid lid bid (evens F N) W (.s pid 0 0 W 1) σ →
                σ[pid]? = some (O.row 0 (ints (rowAt (evF F N) N W s (mxP (prL (evF F N) N s) s (k + 1))))) → K37 (some 0) env σ := by
              intro env σ w1 w3 w8 w9 w67 w68 a1 a2
              refine h37 _ _ _ ?_
              refine h36 _ _ _ ?_
              simp [w1, w3, w8, w9, w67, w68, wrap64 (x := (k : Int) + 1) (by omega) (by omega)]
              exact h33 _ _ _ (again (m2 - 1) (by omega) ⟨k + 1, by omega, by simp, a1, a2⟩)
            clear h33 h36 h37
            cases hb : s.testBit k with
            | false =>
              rw [hb] at hmx
              refine ab_cond_of rfl (fun h => by simp [hb] at h) (fun _ => ?_)
              simp
              exact hend _ _ rfl rfl rfl rfl rfl rfl ⟨pb, px, pl, pm⟩ (by rw [hmx]; exact hP)
            | true =>
              rw [hb, if_pos rfl] at hmx
              refine ab_cond_of rfl (fun _ => ?_) (fun h => by simp [hb] at h)
              have hd1 := drop1_lt hb
              have e2 := shl_nat' (m := k) (by omega)
              have e3 : less s (2 ^ k) = drop1 s k := rfl
              have hp1 : 2 ^ k ≤ 1024 := (pow_small (by omega)).2
              generalize 2 ^ k = p at *
              have e4 := andNot_nat (a := s) (b := p) (by omega) (by omega)
              rw [e3] at e4
              have r1 := rowAt_get (ev := evF F N) (N := N) (W := W) (s := s) (x := mxP (prL (evF F N) N s) s k)
              have r2 := rowAt_low (ev := evF F N) (N := N) (W := W) (s := s) (x := mxP (prL (evF F N) N s) s k) hd1
              generalize (prL (evF F N) N s).getD (drop1 s k) 0 = y at *
              generalize mxP (prL (evF F N) N s) s k = x at *
              generalize drop1 s k = dk at *
              have hrl := rowAt_len (ev := evF F N) (N := N) (x := x) hsW
              obtain ⟨hr1, r1'⟩ := List.getElem?_eq_some_iff.1 r1
              obtain ⟨hr2, r2'⟩ := List.getElem?_eq_some_iff.1 r2
              have hset := rowAt_set (ev := evF F N) (N := N) (W := W) (s := s) (x := x) (y := max x y)
              generalize hR : rowAt (evF F N) N W s x = R at *
              have hdkW : dk < W := by omega
              simp [abDs_consU, drU, recheck_cons, recheck_nil, rcK, IS.dst, px, px', pl, pl', hP, hP', hsW, e2, e4, hdkW, r1, r1', r2, r2', hrl]
              rw [ints_set, hset]
              refine hend _ _ rfl rfl rfl rfl rfl rfl ⟨?_, ?_, ?_, ?_⟩ (by rw [List.getElem?_set_self hPl, hmx])
              · rw [List.getElem?_set_ne (by omega)]; exact pb
              · rw [List.getElem?_set_ne (by omega)]; exact px
              · rw [List.getElem?_set_ne (by omega)]; exact pl
              · rw [List.getElem?_set_ne (by omega)]; exact pm
          · have hkN : k = N := by simp at hc2; omega
            subst hkN
            simp
            refine h32 _ _ _ ?_
            refine h30 _ _ _ ?_
            clear h30 h32 h33 h35
            have hkm := even69m (s := s) ⟨pb, px, pl, pm⟩ hevp hP (rowAt_len hsW)
            rw [hevB s hsW] at hkm
            have hend : ∀ env σ, get env 1 = .p 0 0 0 → get env 3 = .p bid 0 0 → get env 8 = .f (.func 69) [.p lid 0 0] [] → get env 9 = .i .i64 s → HpL k D f F mid lid bid (evens F k) W (.s pid 0 0 W 1) σ →
                σ[pid]? = some (O.row 0 (ints (rowAt (evF F k) k W s (stepP (evF F k) k (prL (evF F k) k s) s)))) → K29 (some 0) env σ := by
              intro env σ w1 w3 w8 w9 a1 a2
              refine h29 _ _ _ ?_
              refine h28 _ _ _ ?_
              simp [w1, w3, w8, w9, wrap64 (x := (s : Int) + 1) (by omega) (by omega)]
              refine h25 _ _ _ (again (m - 1) (by omega) ⟨s + 1, by omega, by omega, by simp, a1, ?_⟩)
              rw [a2]
              by_cases hlt : s + 1 < W
              · rw [if_pos hlt, rowAt_next hs1 hlt]
              · rw [if_neg hlt, rowAt_last hs1 (by omega)]
            clear h28 h29 h25
            have hmb := mxP_b (s := s) (by omega) hPb k
            have hst : stepP (evF F k) k (prL (evF F k) k s) s = mxP (prL (evF F k) k s) s k + (if evF F k s then 1 else 0) := rfl
            have r1 := rowAt_get (ev := evF F k) (N := k) (W := W) (s := s) (x := mxP (prL (evF F k) k s) s k)
            have hset := rowAt_set (ev := evF F k) (N := k) (W := W) (s := s) (x := mxP (prL (evF F k) k s) s k) (y := mxP (prL (evF F k) k s) s k + 1)
            have hrl := rowAt_len (ev := evF F k) (N := k) (x := mxP (prL (evF F k) k s) s k) hsW
            generalize stepP (evF F k) k (prL (evF F k) k s) s = st at *
            generalize mxP (prL (evF F k) k s) s k = x at *
            obtain ⟨hr1, r1'⟩ := List.getElem?_eq_some_iff.1 r1
            generalize hR : rowAt (evF F k) k W s x = R at *
            refine ab_seq_k fun K41 h41 => ?_
            simp
            refine callK_of hkm ?_
            simp
            refine h41 _ _ _ ?_
            clear h41 K41
            cases hev : evF F k s with
            | false =>
              rw [hev] at hst
              refine ab_cond_of rfl (fun h => by cases h) (fun _ => ?_)
              simp
              exact hend _ _ rfl rfl rfl rfl ⟨pb, px, pl, pm⟩ (by rw [hst]; simp; rw [hR]; exact hP)
            | true =>
              rw [hev, if_pos rfl] at hst
              refine ab_cond_of rfl (fun _ => ?_) (fun h => by cases h)
              simp [px, px', pl, pl', hP, hP', hsW, r1, r1', hrl, wrap64 (x := x + 1) (by omega) (by omega)]
              rw [ints_set, hset]
              refine hend _ _ rfl rfl rfl rfl ⟨?_, ?_, ?_, ?_⟩ (by rw [List.getElem?_set_self hPl, hst])
              · rw [List.getElem?_set_ne (by omega)]; exact pb
              · rw [List.getElem?_set_ne (by omega)]; exact px
              · rw [List.getElem?_set_ne (by omega)]; exact pl
              · rw [List.getElem?_set_ne (by omega)]; exact pm
        · have hsW : s = W := by have := of_decide_eq_false hc; omega
          rw [if_neg (by omega)] at hP
          simp
          refine h24 _ _ _ ?_
          refine h22 _ _ _ ?_
          clear h22 h24 h25 h26
          refine ab_seq_k fun K40 h40 => ?_
          simp [px, px']
          refine h40 _ _ _ ?_
          clear h40 K40
          simp
          refine fin_of 4 ?_
          simp [-frz, rs82]
          have h1 := frz_mp (k := 1) (n := 0) pm (Nat.zero_le _) (fun e he => (hevp e he).2)
          have h2 := frz_ints (k := 1) (n := 0) hP (Nat.zero_le _)
          rw [prL_len] at h2
          rw [frz_led (k := 2) pl, h1, h2]
          have e1 : sl (prL (evF F N) N W) false = .ss (ints (prL (evF F N) N W)) W false := by show V.ss _ _ _ = _; rw [prL_len]
          unfold ledV
          rw [e1]
      · intro e he hns
        unfold mpV at he
        obtain ⟨e2, he2, rfl⟩ := List.mem_map.1 he
        clear he
        have he := he2
        clear he2
        simp only at hns
        obtain ⟨hef, hep⟩ := List.mem_filter.1 he
        obtain ⟨s, hs, rfl⟩ := hEm e2 hef
        have hns2 : s ∉ seen := hns
        have hfs := find_stamp hFok he
        simp only [entS] at hfs
        have ub : (σ.set 5 (O.it mid W (seen ++ [s]) W))[0]? = some (.row 0 (bookC N D f)) := by rw [List.getElem?_set_ne (by omega)]; exact qb
        have ux : (σ.set 5 (O.it mid W (seen ++ [s]) W))[bid]? = some (.row 0 [.p lid 0 0]) := by rw [List.getElem?_set_ne (by omega)]; exact qx
        have ul : (σ.set 5 (O.it mid W (seen ++ [s]) W))[lid]? = some (.row 0 (ledC N D f F (.m mid) (.ss [] 0 true))) := by rw [List.getElem?_set_ne (by omega)]; exact ql
        have um : (σ.set 5 (O.it mid W (seen ++ [s]) W))[mid]? = some (.map (mpV (E.filter (leftE F N seen))) W) := by rw [List.getElem?_set_ne (by omega)]; exact qm
        have ui : (σ.set 5 (O.it mid W (seen ++ [s]) W))[5]? = some (.it mid W (seen ++ [s]) W) := List.getElem?_set_self hqi
        have hul : (σ.set 5 (O.it mid W (seen ++ [s]) W)).length = σ.length := List.length_set ..
        simp [entS]
        generalize σ.set 5 (O.it mid W (seen ++ [s]) W) = U at *
        refine h12 _ _ _ ?_
        clear h12 K12
        refine ab_seq_k fun K13 h13 => ?_
        refine ab_cond_of rfl (fun _ => ?_) (fun h => by cases h)
        simp
        refine h13 _ _ _ ?_
        clear h13 K13
        refine ab_block_k fun K14 h14 => ?_
        refine ab_seq_k fun K15 h15 => ?_
        simp
        refine ent_K ui um hfs ?_
        simp
        refine h15 _ _ _ ?_
        clear h15 K15
        have hm' : (E.filter fun e => decide (e.1 ∉ seen ++ [s])).length < m := by
          rw [← hm]
          have e : (E.filter fun e => decide (e.1 ∉ seen ++ [s])) = (E.filter fun e => decide (e.1 ∉ seen)).filter fun e => !decide (e.1 = s) := by
            rw [List.filter_filter]
            refine List.filter_congr (fun p _ => ?_)
            rw [Bool.eq_iff_iff]
            simp
            exact And.comm
          rw [e, List.length_filter_lt_length_iff_exists]
          exact ⟨_, List.mem_filter.2 ⟨hef, decide_eq_true hns2⟩, by simp [entS]⟩
        have vb := app_get (g := [O.row 0 [V.i .i64 (s : Int)]]) ub
        have vx := app_get (g := [O.row 0 [V.i .i64 (s : Int)]]) ux
        have vl := app_get (g := [O.row 0 [V.i .i64 (s : Int)]]) ul
        have vm := app_get (g := [O.row 0 [V.i .i64 (s : Int)]]) um
        have vi := app_get (g := [O.row 0 [V.i .i64 (s : Int)]]) ui
        have vr : (U ++ [O.row 0 [V.i .i64 (s : Int)]])[U.length]? = some (O.row 0 [V.i .i64 (s : Int)]) := by simp
        generalize U ++ [O.row 0 [V.i .i64 (s : Int)]] = V' at *
        generalize hri : U.length = ri at *
        obtain ⟨hvx, vx'⟩ := List.getElem?_eq_some_iff.1 vx
        obtain ⟨hvl, vl'⟩ := List.getElem?_eq_some_iff.1 vl
        obtain ⟨hvr, vr'⟩ := List.getElem?_eq_some_iff.1 vr
        obtain ⟨hvm, -⟩ := List.getElem?_eq_some_iff.1 vm
        have hdone : ∀ env V'' E'', get env 1 = .p 0 0 0 → get env 3 = .p bid 0 0 → get env 33 = .p 5 0 0 → E'' = (E.filter (leftE F N (seen ++ [s]))) →
            V''[0]? = some (.row 0 (bookC N D f)) → V''[bid]? = some (.row 0 [.p lid 0 0]) → V''[lid]? = some (.row 0 (ledC N D f F (.m mid) (.ss [] 0 true))) → V''[mid]? = some (.map (mpV E'') W) → V''[5]? = some (.it mid W (seen ++ [s]) W) → K14 (some 0) env V'' := by
          rintro env V'' E'' w1 w3 w33 rfl a0 a1 a2 a3 a4
          refine h14 _ _ _ (h11 _ _ _ (again _ hm' ⟨seen ++ [s], rfl, ?_, ⟨a0, a1, a2, a3⟩, a4⟩))
          simp [w1, w3, w33]
        clear h14 h11
        have hgd : goodE F N (entS F N s) = evF F N s := rfl
        have hgd2 : goodE F N (s, [(s : Int)], V.i .i64 (sumF F s N)) = evF F N s := rfl
        have huniq : ∀ p ∈ E, p.1 = s → p = entS F N s := fun p hp h => by
          obtain ⟨s', hs', rfl⟩ := hEm p hp
          have : s' = s := h
          rw [this]
        refine ab_seq_k fun K16 h16 => ?_
        have hK16 : ∀ env c, get env 1 = .p 0 0 0 → get env 3 = .p bid 0 0 → get env 6 = .p ri 0 0 → get env 33 = .p 5 0 0 → get env 45 = .b c → c = !evF F N s → K16 (some 0) env V' := by
          intro env c w1 w3 w6 w33 w hc
          refine h16 _ _ _ ?_
          clear h16 K16
          refine ab_cond_of w (fun hb => ?_) (fun hb => ?_)
          · have hbad : evF F N s = false := by rw [hc] at hb; simpa using hb
            obtain ⟨j, s', hj, hfi⟩ := lk_some (lk_at hFok (List.mem_iff_getElem?.1 he).choose_spec)
            simp [abDs_consU, drU, recheck_cons, recheck_nil, rcK, IS.dst, w1, w3, w6, w33, vx, vx', vl, vl', vr, vr']
            refine mdelK_old (n := 1) (k := [(s : Int)]) (v := .u) hFok vm hfi rfl ?_
            simp [abDs_consU, drU, recheck_cons, recheck_nil, rcK, IS.dst, w1, w3, w6, w33]
            refine hdone _ _ _ rfl rfl rfl ?_ (by rw [List.getElem?_set_ne (by omega)]; exact vb) (by rw [List.getElem?_set_ne (by omega)]; exact vx) (by rw [List.getElem?_set_ne (by omega)]; exact vl) (List.getElem?_set_self hvm) (by rw [List.getElem?_set_ne (by omega)]; exact vi)
            rw [erase_filter hFok hfi, List.filter_filter]
            refine List.filter_congr fun p hp => ?_
            by_cases hps : p.1 = s
            · rw [huniq p hp hps]
              simp [leftE, hgd2, hbad, entS]
            · have hk : ¬ p.2.1 = [(s : Int)] := fun h => by
                obtain ⟨s', hs', rfl⟩ := hEm p hp
                simp [entS] at h hps
                omega
              simp [leftE, hk, hps, entS]
          · have hgood : evF F N s = true := by rw [hc] at hb; simpa using hb
            simp [w1, w3, w6, w33]
            refine hdone _ _ _ (by simp [w1]) (by simp [w3]) (by simp [w33]) ?_ vb vx vl vm vi
            refine List.filter_congr fun p hp => ?_
            by_cases hps : p.1 = s
            · rw [huniq p hp hps]
              simp [leftE, hgd2, hgood, entS]
            · simp [leftE, hps]
        clear h16
        by_cases c1 : sumF F s N = 0
        · simp [c1, vr, vr']
          exact hK16 _ _ rfl rfl rfl rfl rfl (by simp [evF, c1])
        · simp [c1]
          exact hK16 _ true rfl rfl rfl rfl rfl (by simp [evF, c1])
  clear h2
  simp only [ab_alt_two, ab_alt_one]
  have eb : ∀ prs, (V.i .i64 (N : Int)) :: (slD D f) :: (ints (rowF 10 F) ++ [V.m 1, prs]) = ledC N D f F (.m 1) prs := fun prs => rfl
  refine ⟨?_, ?_, ?_⟩
  · simp [abDs_consU, drU, recheck_cons, recheck_nil, rcK, IS.dst, get1_bookC, take_bookC]
    refine callK_of (hb57 _) ?_
    simp [abDs_consU, drU, recheck_cons, recheck_nil, rcK, IS.dst, get1_bookC, take_bookC]
    exact ⟨callK_of (hb57 _) (by simp [rcK]), hK2 1 2 3 _ ⟨rfl, rfl, rfl, rfl⟩ rfl (by omega) (by omega) (by omega) (by omega) (by omega) (by omega)⟩
  · simp [abDs_consU, drU, recheck_cons, recheck_nil, rcK, IS.dst, get1_bookC, take_bookC]
    refine callK_of (hb57 _) ?_
    simp [abDs_consU, drU, recheck_cons, recheck_nil, rcK, IS.dst, get1_bookC, take_bookC]
    exact ⟨callK_of (hb57 _) (by simp [rcK]), callK_of (hb57 _) (by simp [rcK]), hK2 1 3 2 _ ⟨rfl, rfl, rfl, rfl⟩ rfl (by omega) (by omega) (by omega) (by omega) (by omega) (by omega)⟩
  · simp [abDs_consU, drU, recheck_cons, recheck_nil, rcK, IS.dst, get1_bookC, take_bookC]
    refine callK_of (hb57 _) ?_
    simp [abDs_consU, drU, recheck_cons, recheck_nil, rcK, IS.dst, get1_bookC, take_bookC]
    exact ⟨callK_of (hb57 _) (by simp [rcK]), callK_of (hb57 _) (by simp [rcK]), hK2 2 3 1 _ ⟨rfl, rfl, rfl, rfl⟩ rfl (by omega) (by omega) (by omega) (by omega) (by omega) (by omega)⟩
end Go.Ab
