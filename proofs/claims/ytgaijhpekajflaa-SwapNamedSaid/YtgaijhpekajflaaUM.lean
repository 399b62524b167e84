/- What is owed from one mill to another one, as a map; circles are looked for. -/
import Derived.Test.YtgaijhpekajflaaUL
set_option linter.unusedVariables false
set_option linter.unusedSimpArgs false
set_option maxHeartbeats 4000000
set_option maxRecDepth 100000
namespace Go.Ab
open Go Go.Proofs

theorem Lt.mono {n m : Nat} {v : V} (h : Lt n v) (hm : n ≤ m) : Lt m v := by
  induction h with
  | u => exact .u
  | b x => exact .b x
  | i k x => exact .i k x
  | str s => exact .str s
  | np => exact .np
  | nm => exact .nm
  | nf => exact .nf
  | p _ _ _ h => exact .p _ _ _ (Nat.lt_of_lt_of_le h hm)
  | s _ _ _ _ _ h => exact .s _ _ _ _ _ (Nat.lt_of_lt_of_le h hm)
  | m _ h => exact .m _ (Nat.lt_of_lt_of_le h hm)
  | sp _ _ _ ih => exact .sp _ _ ih
  | ss _ _ _ _ ih => exact .ss _ _ _ ih
  | sm _ _ _ ih1 ih2 => exact .sm _ ih1 ih2
  | f _ _ _ _ _ ih1 ih2 => exact .f _ _ _ ih1 ih2
  | agg _ _ ih => exact .agg _ ih
  | tup _ _ ih => exact .tup _ ih
theorem LtO.mono {n m : Nat} {o : O} (h : LtO n o) (hm : n ≤ m) : LtO m o := by
  cases o with
  | row ver cells => exact fun x hx => (h x hx).mono hm
  | map es c => exact fun e he => ⟨(h e he).1.mono hm, (h e he).2.mono hm⟩
  | it mid a b c => exact Nat.lt_of_lt_of_le h hm
  | dead v => trivial
theorem LtAll.cut2 {σ : List O} (h : LtAll σ) (b : List O) (hb : ∀ o ∈ b, ∀ k n τ, frzO (k + 1) n τ o = o) : ∃ k0, ∀ k, k0 ≤ k → ∀ g, frzS k (σ.length + b.length) (σ ++ b ++ g) = σ ++ b := by
  obtain ⟨k0, hk0⟩ := frzL_lt (n := σ.length + b.length) (l := σ) (fun o ho => (h o ho).mono (Nat.le_add_right _ _))
  refine ⟨k0 + 1, fun k hk g => ?_⟩
  obtain ⟨k, rfl⟩ : ∃ j, k = j + 1 := ⟨k - 1, by omega⟩
  have e : (σ ++ b ++ g).take (σ.length + b.length) = σ ++ b := by rw [← List.length_append, List.take_left]
  rw [frzS, e, List.map_append, hk0 (k + 1) (by omega)]
  congr 1
  have : b.map (frzO (k + 1) (σ.length + b.length) (σ ++ b ++ g)) = b.map id := List.map_congr_left fun o ho => hb o ho k _ _
  rw [this, List.map_id]
theorem frzO_mp {k n : Nat} {τ : List O} {E : List Ent} {c : Nat} (hp : ∀ e ∈ E, e.2.2.pure = true) : frzO (k + 1) n τ (.map (mpV E) c) = .map (mpV E) c := by
  simp only [frzO]
  have : (mpV E).map (fun e => (e.1, frz (k + 1) n τ e.2.1, frz (k + 1) n τ e.2.2)) = (mpV E).map id := by
    refine List.map_congr_left fun e he => ?_
    obtain ⟨x, hx, rfl⟩ := List.mem_map.1 he
    have h1 : (kV x.2.1).pure = true := by
      unfold kV
      simp only [V.pure]
      exact pure_ints
    rw [frz_pure h1, frz_pure (hp x hx)]; rfl
  rw [this, List.map_id]

/-! ### What is owed -/
def owF (D : List Db) (a b : Nat) : Int := D.foldl (fun x d => if d.1 = (a : Int) ∧ d.2.1 = (b : Int) then x + d.2.2 else x) 0
theorem owF_snoc {D : List Db} {d : Db} {a b : Nat} : owF (D ++ [d]) a b = owF D a b + if d.1 = (a : Int) ∧ d.2.1 = (b : Int) then d.2.2 else 0 := by
  unfold owF
  rw [List.foldl_append]
  simp only [List.foldl_cons, List.foldl_nil]
  split <;> simp
def owE (D : List Db) : List Ent := D.mapIdx fun i d => (i, pr d, .i .i64 d.2.2)
theorem owE_snoc {D : List Db} {d : Db} : owE (D ++ [d]) = owE D ++ [(D.length, pr d, .i .i64 d.2.2)] := by simp [owE, List.mapIdx_append]
/-- The map of what is owed. -/
structure OwOK (N : Nat) (E : List Ent) (c : Nat) (F : Nat → Nat → Int) : Prop where
  ok : MapOK 2 E c
  lk : ∀ a b : Nat, lk E [(a : Int), (b : Int)] = if F a b = 0 then none else some (.i .i64 (F a b))
  nn : ∀ a b, 0 ≤ F a b ∧ F a b ≤ 1000000
  lt : ∀ a b, F a b ≠ 0 → a < N ∧ b < N ∧ a ≠ b
  pure : ∀ e ∈ E, e.2.2.pure = true
def edF (F : Nat → Nat → Int) (a b : Nat) : Bool := decide (F a b ≠ 0)
theorem ow_ok {N : Nat} : ∀ {D : List Db}, DbOK N 1000000 D → (D.map pr).Nodup → OwOK N (owE D) D.length (owF D) ∧ (owE D).map (·.2.1) = D.map pr := by
  intro D
  refine snoc_ind (P := fun D => DbOK N 1000000 D → (D.map pr).Nodup → OwOK N (owE D) D.length (owF D) ∧ (owE D).map (·.2.1) = D.map pr) ?_ ?_ D
  · intro _ _
    exact ⟨⟨MapOK.nil (by omega), fun a b => by simp [owE, lk, owF], fun a b => by simp [owF], fun a b h => by simp [owF] at h, by simp [owE]⟩, rfl⟩
  · intro D d ih hD hnd
    have hd := hD d (by simp)
    rw [List.map_append, List.nodup_append] at hnd
    obtain ⟨hO, hk⟩ := ih (fun x hx => hD x (List.mem_append_left _ hx)) hnd.1
    have hnew : lk (owE D) (pr d) = none := by
      rw [lk_none, hk]
      intro h
      exact hnd.2.2 _ h _ (by simp) rfl
    obtain ⟨p, hp⟩ : ∃ p : Nat, d.1 = (p : Int) := ⟨d.1.toNat, by omega⟩
    obtain ⟨q, hq⟩ : ∃ q : Nat, d.2.1 = (q : Int) := ⟨d.2.1.toNat, by omega⟩
    have hpd : pr d = [(p : Int), (q : Int)] := by simp [pr, hp, hq]
    have h0 : owF D p q = 0 := by
      have := hO.lk p q
      rw [← hpd, hnew] at this
      by_cases h : owF D p q = 0
      · exact h
      · rw [if_neg h] at this; cases this
    have hF : ∀ a b, owF (D ++ [d]) a b = if a = p ∧ b = q then d.2.2 else owF D a b := fun a b => by
      rw [owF_snoc, hp, hq]
      by_cases h : a = p ∧ b = q
      · obtain ⟨rfl, rfl⟩ := h
        simp [h0]
      · rw [if_neg h, if_neg (by omega), Int.add_zero]
    refine ⟨⟨?_, ?_, ?_, ?_, ?_⟩, ?_⟩
    · rw [owE_snoc, List.length_append]
      exact hO.ok.push rfl hnew
    · intro a b
      rw [owE_snoc, lk_push, hO.lk, hF, hpd]
      by_cases h : a = p ∧ b = q
      · obtain ⟨rfl, rfl⟩ := h
        rw [if_pos h0]
        simp
        omega
      · have hne : ¬ ([(p : Int), (q : Int)] = [(a : Int), (b : Int)]) := fun e => by simp at e; omega
        rw [if_neg h, if_neg hne]
        simp
    · intro a b
      rw [hF]
      split
      · omega
      · exact hO.nn a b
    · intro a b h
      rw [hF] at h
      split at h
      · rename_i h1; omega
      · exact hO.lt a b h
    · intro e he
      rw [owE_snoc] at he
      rcases List.mem_append.1 he with he | he
      · exact hO.pure e he
      · simp at he; subst he; rfl
    · rw [owE_snoc, List.map_append, List.map_append, hk]; rfl
theorem ow_take {D : List Db} {i : Nat} {d : Db} (h : D[i]? = some d) : owE (D.take (i + 1)) = owE (D.take i) ++ [(i, pr d, .i .i64 d.2.2)] := by
  have hl := (List.getElem?_eq_some_iff.1 h).1
  rw [List.take_add_one, h]
  show owE (D.take i ++ [d]) = _
  rw [owE_snoc, List.length_take, Nat.min_eq_left (by omega)]
theorem set2 {σ g : List O} {a b c : O} : (σ ++ a :: b :: g).set (σ.length + 1) c = σ ++ a :: c :: g := by simp [List.set_append_right]
theorem newOwed_ab {N : Nat} {D : List Db} {f : Bool} {σ : List O} {K : Kt} (hD : DbOK N 1000000 D) (hnd : (D.map pr).Nodup) (hl : D.length ≤ 40)
    (hK : ∀ env g, get env 2 = .m (σ.length + 1) → K (some 0) env (σ ++ O.row 0 (bookC N D f) :: O.map (mpV (owE D)) D.length :: g)) :
    ab Try.prog noY noIt σ.length ic74 K [] K (some 0) (entry 0 [bookV N D f]) σ := by
  rw [ic74]
  refine ab_seq_k fun K1 h1 => ?_
  simp
  refine h1 _ _ _ ?_
  clear h1 K1
  refine ab_seq_k fun K2 h2 => ?_
  simp
  refine h2 _ _ _ ?_
  clear h2 K2
  refine ab_seq_k fun K3 h3 => ?_
  refine ab_seq_k fun K4 h4 => ?_
  simp [get1_bookC]
  refine h4 _ _ _ ?_
  clear h4 K4
  refine ab_block_k fun K5 h5 => ?_
  refine ab_loop_k (fun m env σ' => ∃ i : Nat, i + m = D.length ∧ env = [(3, .m (σ.length + 1)), (8, slD D f), (9, .i .i64 D.length), (10, .i .i64 i)] ∧ ∃ g, σ' = σ ++ (O.row 0 (bookC N D f) :: O.map (mpV (owE (D.take i))) i :: g)) D.length ⟨0, by omega, by simp, [], by simp [owE, mpV]⟩ ?_
  rintro m env σ' ⟨i, hi, rfl, g, rfl⟩ K6 h6
  rw [ic74_0]
  refine ab_seq_k fun K7 h7 => ?_
  simp
  refine h7 _ _ _ ?_
  clear h7 K7
  refine ab_seq_k fun K8 h8 => ?_
  refine ab_cond_of rfl (fun hc => ?_) (fun hc => ?_)
  · have hil : i < D.length := by simpa using hc
    obtain ⟨d, hd⟩ : ∃ d, D[i]? = some d := ⟨_, List.getElem?_eq_getElem hil⟩
    obtain ⟨z1, z2, z3, z4⟩ := lsD_get hd
    have hm3 : min 3 (D.length * 3 - i * 3) = 3 := by omega
    have hle : i * 3 + 3 ≤ D.length * 3 := by omega
    have hDi : DbOK N 1000000 (D.take i) := fun x hx => hD x (List.mem_of_mem_take hx)
    have hndi : ((D.take i).map pr).Nodup := hnd.sublist ((List.take_sublist i D).map pr)
    obtain ⟨hO, hk⟩ := ow_ok hDi hndi
    have hli : (D.take i).length = i := by rw [List.length_take]; omega
    rw [hli] at hO
    have hnew : lk (owE (D.take i)) (pr d) = none := by
      rw [lk_none, hk]
      intro h
      have e : D.take (i + 1) = D.take i ++ [d] := by rw [List.take_add_one, hd]; rfl
      have h2 : ((D.take (i + 1)).map pr).Nodup := hnd.sublist ((List.take_sublist _ D).map pr)
      rw [e, List.map_append, List.nodup_append] at h2
      exact h2.2.2 _ h _ (by simp) rfl
    simp
    refine h8 _ _ _ ?_
    clear h8 K8
    refine ab_seq_k fun K9 h9 => ?_
    refine ab_block_k fun K10 h10 => ?_
    refine ab_seq_k fun K11 h11 => ?_
    simp [z1, hm3, hle, hil]
    refine h11 _ _ _ ?_
    clear h11 K11
    have r1 : (σ ++ O.row 0 (bookC N D f) :: O.map (mpV (owE (D.take i))) i :: (g ++ [O.row 0 [V.i .i64 d.1, .i .i64 d.2.1, .i .i64 d.2.2]]))[σ.length + 1]? = some (O.map (mpV (owE (D.take i))) i) := by simp
    have r2 : (σ ++ O.row 0 (bookC N D f) :: O.map (mpV (owE (D.take i))) i :: (g ++ [O.row 0 [V.i .i64 d.1, .i .i64 d.2.1, .i .i64 d.2.2]]))[σ.length + (g.length + 1 + 1)]? = some (O.row 0 [V.i .i64 d.1, .i .i64 d.2.1, .i .i64 d.2.2]) := by simp
    simp [r2]
    refine msetK_new (k := pr d) hO.ok r1 rfl hnew ?_
    rw [← ow_take hd, set2]
    refine h10 _ _ _ ?_
    refine h9 _ _ _ ?_
    simp [wrap64 (x := (i : Int) + 1) (by omega) (by omega)]
    exact h6 _ _ _ (again (m - 1) (by omega) ⟨i + 1, by omega, by simp, _, rfl⟩)
  · have hil : i = D.length := by simp at hc; omega
    subst hil
    rw [List.take_length]
    simp
    refine h5 _ _ _ ?_
    refine h3 _ _ _ ?_
    refine ab_seq_k fun K12 h12 => ?_
    simp
    refine h12 _ _ _ ?_
    clear h12 K12
    simp
    exact hK _ g rfl
theorem newOwed74 {N : Nat} {D : List Db} {f : Bool} {σ : List O} (hD : DbOK N 1000000 D) (hnd : (D.map pr).Nodup) (hl : D.length ≤ 40) :
    FSpec Try.prog 74 [bookV N D f] σ (.m (σ.length + 1)) (σ ++ [O.row 0 (bookC N D f), .map (mpV (owE D)) D.length]) := by
  refine fn74.specL mixed noIt_ok (fun hlt => ?_)
  refine newOwed_ab hD hnd hl fun env g w => ?_
  unfold finK
  simp [-frz, rs74, w]
  obtain ⟨k0, hk0⟩ := hlt.cut2 [O.row 0 (bookC N D f), .map (mpV (owE D)) D.length] (by
    intro o ho k n τ
    simp at ho
    rcases ho with rfl | rfl
    · exact frzO_pure (by simp)
    · exact frzO_mp (ow_ok hD hnd).1.pure)
  refine .inl ⟨k0 + 1, σ.length + 2, by omega, by omega, ?_, ?_⟩
  · rw [frz]
    simp
  · have := hk0 (k0 + 1) (by omega) g
    simpa using this
/-- The same, frozen. -/
abbrev owS (D : List Db) : V := .sm ((mpV (owE D)).map (·.2))
theorem newOwed74s {N : Nat} {D : List Db} {f : Bool} (hD : DbOK N 1000000 D) (hnd : (D.map pr).Nodup) (hl : D.length ≤ 40) : FSpec Try.prog 74 [bookV N D f] [] (owS D) [] := by
  refine fn74.spec0 mixed noIt_ok ?_
  refine newOwed_ab (σ := []) hD hnd hl fun env g w => ?_
  refine fin_of 2 ?_
  simp [-frz, rs74, w]
  exact frz_mp (k := 0) (c := D.length) rfl (by omega) (ow_ok hD hnd).1.pure
end Go.Ab
