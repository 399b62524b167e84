/- The search of circles: the walk of circle. -/
import Derived.Test.YtgaijhpekajflaaUN
set_option linter.unusedVariables false
set_option linter.unusedSimpArgs false
set_option maxHeartbeats 8000000
set_option maxRecDepth 100000
namespace Go.Ab
open Go Go.Proofs

theorem frz_m {k n id : Nat} {σ : List O} (h : id < n) : frz (k + 1) n σ (.m id) = .m id := by simp [h]
theorem frz_i {k n : Nat} {σ : List O} {a : IntKind} {b : Int} : frz (k + 1) n σ (.i a b) = .i a b := frz_pure rfl
theorem wI_append {l m : List Nat} : wI (l ++ m) = wI l ++ wI m := by simp [wI]
def stepR (N : Nat) (out : List Nat) (f : Nat) : Option (List Int) → List Nat
  | none => out
  | some b => if out = [] ∨ (circOf N f b).length < out.length then circOf N f b else out
theorem circStep_eq {ed : Nat → Nat → Bool} {N : Nat} {out : List Nat} {f : Nat} {r : Option (List Int)} (h : bfs ed N f N (List.replicate N (-1)) [f] = r) : circStep ed N out f = stepR N out f r := by
  unfold circStep
  rw [h]
  cases r <;> rfl
theorem circle73g {N : Nat} {mv : V} {F : Nat → Nat → Int} {σ : List O} (hN1 : 1 ≤ N) (hN : N ≤ 10) (hltN : ∀ a b, F a b ≠ 0 → b < N)
    (hlk : ∀ (g : List O) (a b : Nat) (C : Ct), C (if F a b = 0 then .tup [.i .i64 0, .b false] else .tup [.i .i64 (F a b), .b true]) (σ ++ g) → lkpC .i64 2 (.i .i64 0) true mv (kV [(a : Int), (b : Int)]) (σ ++ g) C)
    (hfz : ∀ k τ, frz (k + 1) σ.length τ mv = mv) :
    FSpec Try.prog 73 [.i .i64 N, mv] σ (resV (circF (edF F) N)) σ := by
  refine fn73.specL mixed noIt_ok (fun hltA => ?_)
  rw [ic73]
  obtain ⟨k0, hk0⟩ := hltA.cut
  have hlt : ∀ a b, edF F a b = true → b < N := fun a b h => hltN a b (by simpa [edF] using h)
  have edn : ∀ a b, edF F a b = true ↔ F a b ≠ 0 := fun a b => by simp [edF]
  refine ab_seq_k fun K1 h1 => ?_
  simp
  refine h1 _ _ _ ?_
  clear h1 K1
  refine ab_seq_k fun K2 h2 => ?_
  simp
  refine h2 _ _ _ ?_
  clear h2 K2
  refine ab_seq_k fun K3 h3 => ?_
  simp
  refine h3 _ _ _ ?_
  clear h3 K3
  refine ab_seq_k fun K4 h4 => ?_
  refine ab_seq_k fun K5 h5 => ?_
  simp
  refine h5 _ _ _ ?_
  clear h5 K5
  refine ab_block_k fun K6 h6 => ?_
  refine ab_loop_k (fun m env σ' => ∃ i : Nat, i + m = N ∧ env = [(0, .i .i64 N), (1, mv), (5, resV ((List.range i).foldl (circStep (edF F) N) [])), (16, .i .i64 N), (17, .i .i64 i)] ∧ σ' = σ) N ⟨0, by omega, by simp [resV, wI, sl, ints], rfl⟩ ?_
  rintro m env σ' ⟨i, hi, rfl, hσ'⟩ K7 h7
  rw [hσ']
  clear hσ' σ'
  rw [ic73_4]
  refine ab_seq_k fun K8 h8 => ?_
  simp
  refine h8 _ _ _ ?_
  clear h8 K8
  refine ab_seq_k fun K9 h9 => ?_
  refine ab_cond_of rfl (fun hc => ?_) (fun hc => ?_)
  case refine_2 =>
    have hil : i = N := by simp at hc; omega
    rw [hil]
    simp
    refine h6 _ _ _ ?_
    refine h4 _ _ _ ?_
    refine ab_seq_k fun K58 h58 => ?_
    simp
    refine h58 _ _ _ ?_
    clear h58 K58
    simp
    exact fin_all (by simp [rs73, circF])
  have hiN : i < N := by simpa using hc
  have hstep : (List.range (i + 1)).foldl (circStep (edF F) N) [] = circStep (edF F) N ((List.range i).foldl (circStep (edF F) N) []) i := by
    rw [List.range_succ, List.foldl_append]; rfl
  generalize hout : (List.range i).foldl (circStep (edF F) N) [] = out at *
  simp
  refine h9 _ _ _ ?_
  clear h9 K9
  refine ab_seq_k fun K10 h10 => ?_
  refine ab_block_k fun K11 h11 => ?_
  -- the next one
  have hnext : ∀ env (g : List O) out', circStep (edF F) N out i = out' → get env 0 = .i .i64 N → get env 1 = mv → frz (k0 + 2) σ.length (σ ++ g) (get env 5) = resV out' → get env 16 = .i .i64 N → get env 17 = .i .i64 i → K11 (some 0) env (σ ++ g) := by
    intro env g out' ho w0 w1 w5 w16 w17
    refine h11 _ _ _ ?_
    refine h10 _ _ _ ?_
    simp [w0, w1, w16, w17, wrap64 (x := (i : Int) + 1) (by omega) (by omega)]
    refine h7 _ _ _ (againF (m - 1) (k0 + 2) σ.length (by omega) (Nat.le_refl _) (by simp) ⟨i + 1, by omega, ?_, hk0 (k0 + 2) (by omega) g⟩)
    rw [hstep, ho]
    simp [-frz, frzE, w5, hfz, frz_i]
  clear h7 h10 h11 h4 h6
  have hres : ∀ o g, frz (k0 + 2) σ.length (σ ++ g) (resV o) = resV o := fun o g => frz_pure (by simp [resV])
  refine ab_seq_k fun K12 h12 => ?_
  simp
  refine h12 _ _ _ ?_
  clear h12 K12
  refine ab_seq_k fun K13 h13 => ?_
  simp
  refine ⟨by omega, by omega, ?_⟩
  have hrep : rep N [V.i .i64 0] = ints (List.replicate N 0) := by simp [rep, ints, List.map_replicate]
  rw [hrep]
  refine h13 _ _ _ ?_
  clear h13 K13 hrep
  refine ab_seq_k fun K14 h14 => ?_
  refine ab_seq_k fun K15 h15 => ?_
  simp
  refine h15 _ _ _ ?_
  clear h15 K15
  refine ab_block_k fun K16 h16 => ?_
  refine ab_loop_k (fun m env σ' => ∃ j : Nat, j + m = N ∧ env = [(0, .i .i64 N), (1, mv), (5, resV out), (6, .i .i64 i), (7, .s σ.length 0 0 N 1), (16, .i .i64 N), (17, .i .i64 i), (23, .i .i64 N), (24, .i .i64 j)] ∧ σ' = σ ++ [O.row 0 (ints (List.replicate j (-1) ++ List.replicate (N - j) 0))]) N ⟨0, by omega, by simp, by simp⟩ ?_
  rintro m1 env σ' ⟨j, hj, rfl, rfl⟩ K17 h17
  rw [ic73_0]
  refine ab_seq_k fun K18 h18 => ?_
  simp
  refine h18 _ _ _ ?_
  clear h18 K18
  refine ab_seq_k fun K19 h19 => ?_
  refine ab_cond_of rfl (fun hc2 => ?_) (fun hc2 => ?_)
  · have hjN : j < N := by simpa using hc2
    have hrl : (List.replicate j (-1 : Int) ++ List.replicate (N - j) 0).length = N := by simp; omega
    have hrs : (List.replicate j (-1 : Int) ++ List.replicate (N - j) 0).set j (-1) = List.replicate (j + 1) (-1) ++ List.replicate (N - (j + 1)) 0 := by
      rw [List.set_append_right (h := by simp)]
      obtain ⟨q, hq⟩ : ∃ q, N - j = q + 1 := ⟨N - j - 1, by omega⟩
      rw [hq, show N - (j + 1) = q by omega, List.replicate_succ' (n := j)]
      simp [List.replicate_succ]
    generalize List.replicate j (-1 : Int) ++ List.replicate (N - j) 0 = S at *
    simp
    refine h19 _ _ _ ?_
    clear h19 K19
    refine ab_seq_k fun K20 h20 => ?_
    refine ab_block_k fun K21 h21 => ?_
    refine ab_seq_k fun K22 h22 => ?_
    simp
    refine h22 _ _ _ ?_
    clear h22 K22
    simp [at1, hjN, hrl]
    rw [ints_set, hrs]
    refine h21 _ _ _ ?_
    refine h20 _ _ _ ?_
    simp [wrap64 (x := (j : Int) + 1) (by omega) (by omega)]
    exact h17 _ _ _ (again (m1 - 1) (by omega) ⟨j + 1, by omega, by simp, by simp⟩)
  have hjN : N = j := by simp at hc2; omega
  subst hjN
  simp only [Nat.sub_self, List.replicate_zero, List.append_nil]
  simp
  refine h16 _ _ _ ?_
  refine h14 _ _ _ ?_
  clear h14 h16 h17 h19 hc2
  refine ab_seq_k fun K23 h23 => ?_
  simp [at1]
  refine h23 _ _ _ ?_
  clear h23 K23
  refine ab_block_k fun K24 h24 => ?_
  obtain ⟨r, hr⟩ : ∃ r, bfs (edF F) N i N (List.replicate N (-1)) [i] = r := ⟨_, rfl⟩
  have hstepr := circStep_eq (out := out) hr
  refine ab_loop_k (fun m env σ' => ∃ (b : List Int) (w dn : List Nat) (dep : Nat → Nat) (junk : List Int) (ver : Nat), Bf (edF F) N i b w dep dn ∧ dn.length + m = N ∧ bfs (edF F) N i m b w = r ∧
    env = [(0, .i .i64 N), (1, mv), (5, resV out), (6, .i .i64 i), (7, .s σ.length 0 0 N 1), (9, .s (σ.length + 1) ver junk.length w.length 1), (16, .i .i64 N), (17, .i .i64 i)] ∧ σ' = σ ++ [O.row 0 (ints b), O.row ver (ints (junk ++ wI w))]) N
    ⟨_, [i], [], _, [], 0, Bf.start hiN, by simp, hr, by simp, by simp [wI, ints]⟩ ?_
  rintro m2 env σ' ⟨b, w, dn, dep, junk, ver, hB, hdn, hbf, rfl, rfl⟩ K25 h25
  rw [ic73_3]
  refine ab_seq_k fun K26 h26 => ?_
  refine ab_seq_k fun K27 h27 => ?_
  simp [at2b]
  refine h27 _ _ _ ?_
  clear h27 K27
  cases w with
  | nil =>
    refine ab_cond_of rfl (fun h => by simp at h) (fun _ => ?_)
    have hrn : r = none := by
      rw [← hbf]
      cases m2 <;> rfl
    subst hrn
    simp
    refine h24 _ _ _ ?_
    exact hnext _ _ out hstepr rfl rfl (hres _ _) rfl rfl
  | cons u w =>
    refine ab_cond_of rfl (fun _ => ?_) (fun h => by simp at h)
    have hroom := hB.room
    obtain ⟨f, rfl⟩ : ∃ f, m2 = f + 1 := ⟨m2 - 1, by simp at hroom; omega⟩
    simp only [bfs] at hbf
    simp
    refine h26 _ _ _ ?_
    clear h26 K26
    refine ab_block_k fun K28 h28 => ?_
    have q0 : (ints (junk ++ wI (u :: w)))[junk.length]? = some (.i .i64 u) := by simp [wI, ints]
    have q1 : (ints (junk ++ wI (u :: w))) = ints ((junk ++ [(u : Int)]) ++ wI w) := by simp [wI]
    have q2 : (ints (junk ++ wI (u :: w))).length = junk.length + (w.length + 1) := by simp
    rw [q1] at q0 q2 ⊢
    clear q1
    refine ab_seq_k fun K29 h29 => ?_
    simp [at2b, q0, q2]
    refine h29 _ _ _ ?_
    clear h29 K29
    refine ab_seq_k fun K30 h30 => ?_
    simp [at2b, q0, q2]
    refine ⟨by omega, h30 _ _ _ ?_⟩
    clear h30 K30
    refine ab_seq_k fun K31 h31 => ?_
    simp
    refine h31 _ _ _ ?_
    clear h31 K31
    refine ab_block_k fun K32 h32 => ?_
    obtain ⟨S, hS⟩ : ∃ S, scanTo (edF F) N i u N b w = S := ⟨_, rfl⟩
    rw [hS] at hbf
    have hscan := scan_ok (u := u) hlt N b w dep (Nat.le_refl _) hB (fun v hv => by omega)
    have hdown := scan_down (u := u) hlt N b w dep (Nat.le_refl _) hB
    rw [hS] at hscan hdown
    have hBl := hB.len
    clear hB q0 q2
    refine ab_loop_k (fun m env σ' => ∃ (b : List Int) (w : List Nat) (junk : List Int) (ver to : Nat), to + m = N ∧ w.length ≤ N + to ∧ b.length = N ∧ scanTo (edF F) N i u m b w = S ∧
      env = [(0, .i .i64 N), (1, mv), (5, resV out), (6, .i .i64 i), (7, .s σ.length 0 0 N 1), (9, .s (σ.length + 1) ver junk.length w.length 1), (10, .i .i64 u), (16, .i .i64 N), (17, .i .i64 i), (41, .i .i64 N), (42, .i .i64 to)] ∧
      σ' = σ ++ [O.row 0 (ints b), O.row ver (ints (junk ++ wI w))]) N ⟨b, w, junk ++ [(u : Int)], ver, 0, by omega, by simp at hroom; omega, hBl, hS, by simp, by simp⟩ ?_
    clear hBl hS
    rintro m3 env σ' ⟨b, w, junk, ver, to, hto, hwl, hbl, hS, rfl, rfl⟩ K33 h33
    rw [ic73_2]
    refine ab_seq_k fun K34 h34 => ?_
    simp
    refine h34 _ _ _ ?_
    clear h34 K34
    refine ab_seq_k fun K35 h35 => ?_
    refine ab_cond_of rfl (fun hc3 => ?_) (fun hc3 => ?_)
    case refine_2 =>
      have hm3 : m3 = 0 := by simp at hc3; omega
      subst hm3
      simp only [scanTo] at hS
      subst hS
      simp only at hbf
      obtain ⟨dep', hB'⟩ := hscan.2 rfl
      simp
      refine h32 _ _ _ ?_
      refine h28 _ _ _ ?_
      refine h25 _ _ _ (again f (by omega) ⟨b, w, dn ++ [u], dep', junk, ver, hB', by simp; omega, hbf, by simp, rfl⟩)
    have htoN : to < N := by simpa using hc3
    obtain ⟨m3, rfl⟩ : ∃ k, m3 = k + 1 := ⟨m3 - 1, by omega⟩
    have htoe : N - (m3 + 1) = to := by omega
    simp only [scanTo, htoe] at hS
    simp
    refine h35 _ _ _ ?_
    clear h35 K35
    refine ab_seq_k fun K36 h36 => ?_
    refine ab_block_k fun K37 h37 => ?_
    have hagain : ∀ env (b : List Int) (w : List Nat) (junk : List Int) (ver : Nat), w.length ≤ N + to + 1 → b.length = N → scanTo (edF F) N i u m3 b w = S → get env 0 = .i .i64 N → get env 1 = mv → get env 5 = resV out → get env 6 = .i .i64 i → get env 7 = .s σ.length 0 0 N 1 → get env 9 = .s (σ.length + 1) ver junk.length w.length 1 → get env 10 = .i .i64 u → get env 16 = .i .i64 N → get env 17 = .i .i64 i → get env 41 = .i .i64 N → get env 42 = .i .i64 to →
        K37 (some 0) env (σ ++ [O.row 0 (ints b), O.row ver (ints (junk ++ wI w))]) := by
      intro env b w junk ver hwl hbl hS w0 w1 w5 w6 w7 w9 w10 w16 w17 w41 w42
      refine h37 _ _ _ ?_
      refine h36 _ _ _ ?_
      simp [w0, w1, w5, w6, w7, w9, w10, w16, w17, w41, w42, wrap64 (x := (to : Int) + 1) (by omega) (by omega)]
      exact h33 _ _ _ (again m3 (by omega) ⟨b, w, junk, ver, to + 1, by omega, by omega, hbl, hS, by simp, rfl⟩)
    clear h33 h36 h37 h25 h28 h32
    refine ab_seq_k fun K38 h38 => ?_
    simp
    refine h38 _ _ _ ?_
    clear h38 K38
    refine ab_seq_k fun K39 h39 => ?_
    refine ab_seq_k fun K40 h40 => ?_
    simp
    refine hlk _ u to _ ?_
    obtain ⟨bt, hbt⟩ : ∃ bt, b[to]? = some bt := ⟨_, List.getElem?_eq_getElem (by omega)⟩
    have hgd : b.getD to 0 = bt := by rw [List.getD_eq_getElem?_getD, hbt]; rfl
    rw [hgd] at hS
    obtain ⟨hbtl, hbt'⟩ := List.getElem?_eq_some_iff.1 hbt
    have qbl : (ints b).length = N := by simp [hbl]
    by_cases hF0 : F u to = 0
    · -- no debt
      rw [if_neg (by rw [edn]; simp [hF0])] at hS
      simp [hF0]
      refine h40 _ _ _ ?_
      refine ab_seq_k fun K41 h41 => ?_
      simp
      refine h41 _ _ _ ?_
      clear h41 K41
      refine ab_cond_of rfl (fun _ => ?_) (fun h => by simp at h)
      simp
      exact hagain _ b w junk ver (by omega) hbl hS rfl rfl rfl rfl rfl rfl rfl rfl rfl rfl rfl
    simp [hF0]
    refine h40 _ _ _ ?_
    clear h40 K40
    refine ab_seq_k fun K41 h41 => ?_
    simp [at2a, hbt, hbt', qbl, htoN, hbl]
    refine h41 _ _ _ ?_
    clear h41 K41
    by_cases hb0 : 0 ≤ bt
    · -- found before
      rw [if_neg (by omega)] at hS
      refine ab_cond_of rfl (fun _ => ?_) (fun h => by simp [hb0] at h)
      simp
      exact hagain _ b w junk ver (by omega) hbl hS rfl rfl rfl rfl rfl rfl rfl rfl rfl rfl rfl
    rw [if_pos ⟨(edn _ _).2 hF0, by omega⟩] at hS
    refine ab_cond_of rfl (fun h => by simp [hb0] at h) (fun _ => ?_)
    simp
    refine h39 _ _ _ ?_
    clear h39 K39
    refine ab_seq_k fun K42 h42 => ?_
    simp [at2a, qbl, htoN, hbl]
    rw [ints_set]
    refine h42 _ _ _ ?_
    clear h42 K42
    have hbl' : (b.set to (u : Int)).length = N := by rw [List.length_set]; exact hbl
    generalize hb' : b.set to (u : Int) = b1 at *
    refine ab_seq_k fun K43 h43 => ?_
    refine ab_seq_k fun K44 h44 => ?_
    simp
    refine h44 _ _ _ ?_
    clear h44 K44
    by_cases htf : to = i
    case neg =>
      -- it waits
      rw [if_neg htf] at hS
      refine ab_cond_of rfl (fun _ => ?_) (fun h => by simp at h; omega)
      refine ab_seq_k fun K45 h45 => ?_
      simp [at2b]
      refine ⟨by omega, ?_⟩
      refine h45 _ _ _ ?_
      have ea : (ints (junk ++ wI w)).drop junk.length ++ [V.i .i64 (to : Int)] = ints ([] ++ wI (w ++ [to])) := by
        have : ints (junk ++ wI w) = ints junk ++ ints (wI w) := by simp [ints]
        rw [this, List.drop_append_of_le_length (by simp), List.drop_of_length_le (by simp)]
        simp [ints, wI]
      rw [ea]
      exact hagain _ b1 (w ++ [to]) [] (ver + 1) (by simp; omega) hbl' hS rfl rfl rfl rfl rfl (by simp) rfl rfl rfl rfl rfl
    -- a circle
    rw [if_pos htf] at hS
    subst hS
    simp only at hbf
    obtain ⟨hl1, hg1, huN, hDn⟩ := hdown b1 rfl
    refine ab_cond_of rfl (fun h => by simp at h; omega) (fun _ => ?_)
    simp
    refine h43 _ _ _ ?_
    clear h43 K43 hagain
    have qb1 : b1[i]? = some (u : Int) := by
      rw [List.getD_eq_getElem?_getD] at hg1
      obtain ⟨x, hx⟩ : ∃ x, b1[i]? = some x := ⟨_, List.getElem?_eq_getElem (by omega)⟩
      rw [hx] at hg1
      simp at hg1
      rw [hx, hg1]
    obtain ⟨qb1l', qb1'⟩ := List.getElem?_eq_some_iff.1 qb1
    have qb1l : (ints b1).length = N := by simp [hl1]
    generalize hW : O.row ver (ints (junk ++ wI w)) = W
    refine ab_seq_k fun K46 h46 => ?_
    simp
    refine h46 _ _ _ ?_
    clear h46 K46
    refine ab_seq_k fun K47 h47 => ?_
    refine ab_seq_k fun K48 h48 => ?_
    simp [at3a, qb1, qb1', qb1l, hiN]
    refine h48 _ _ _ ?_
    clear h48 K48
    refine ab_block_k fun K49 h49 => ?_
    refine ab_loop_k (fun m env σ' => ∃ (a ver2 : Nat) (cc : List Nat), Down b1 i N m a ∧ cc ++ back i b1 m a = i :: back i b1 N u ∧
      env = [(0, .i .i64 N), (1, mv), (5, resV out), (6, .i .i64 i), (7, .s σ.length 0 0 N 1), (14, .s (σ.length + 2) ver2 0 cc.length 1), (15, .i .i64 a), (16, .i .i64 N), (17, .i .i64 i)] ∧
      σ' = σ ++ [O.row 0 (ints b1), W, O.row ver2 (ints (wI cc))]) N ⟨u, 0, [i], hDn, rfl, by simp, by simp [wI, ints]⟩ ?_
    rintro m4 env σ' ⟨a, ver2, cc, hDa, hcc, rfl, rfl⟩ K50 h50
    rw [ic73_1]
    refine ab_seq_k fun K51 h51 => ?_
    refine ab_seq_k fun K52 h52 => ?_
    simp
    refine h52 _ _ _ ?_
    clear h52 K52
    refine ab_cond_of rfl (fun hc5 => ?_) (fun hc5 => ?_)
    · have hai : a ≠ i := by simp at hc5; omega
      cases m4 with
      | zero => exact absurd hDa hai
      | succ m4 =>
        obtain ⟨haN, u', hu', hDu⟩ := hDa.resolve_left hai
        have qa : b1[a]? = some (u' : Int) := by
          rw [List.getD_eq_getElem?_getD] at hu'
          obtain ⟨x, hx⟩ : ∃ x, b1[a]? = some x := ⟨_, List.getElem?_eq_getElem (by omega)⟩
          rw [hx] at hu'
          simp at hu'
          rw [hx, hu']
        obtain ⟨qal, qa'⟩ := List.getElem?_eq_some_iff.1 qa
        simp only [back, if_neg hai, hu', Int.toNat_natCast] at hcc
        simp
        refine h51 _ _ _ ?_
        clear h51 K51
        refine ab_seq_k fun K53 h53 => ?_
        refine ab_block_k fun K54 h54 => ?_
        have hccl : cc.length ≤ 1000 := by
          have := congrArg List.length hcc
          have hbl2 : ∀ k x, (back i b1 k x).length ≤ k := by
            intro k
            induction k with
            | zero => intro x; simp [back]
            | succ k ih => intro x; simp only [back]; split
                           · simp
                           · simp [ih]
          have := hbl2 N u
          simp at *
          omega
        simp [at3c]
        refine ⟨by omega, ?_⟩
        have ea : ints (wI cc) ++ [V.i .i64 (a : Int)] = ints (wI (cc ++ [a])) := by simp [ints, wI]
        rw [ea]
        refine h54 _ _ _ ?_
        refine h53 _ _ _ ?_
        simp [at3a, qa, qa', qb1l, haN]
        exact h50 _ _ _ (again m4 (by omega) ⟨u', ver2 + 1, cc ++ [a], hDu, by rw [List.append_assoc]; exact hcc, by simp, rfl⟩)
    have hai : a = i := by simp at hc5; omega
    have hccE : cc = i :: back i b1 N u := by
      rw [← hcc, hai]
      cases m4 <;> simp [back]
    have hcir : circOf N i b1 = i :: (back i b1 N u).reverse := by
      unfold circOf
      rw [hg1, Int.toNat_natCast]
    have hlb : (back i b1 N u).length ≤ N := by
      have hbl2 : ∀ k x, (back i b1 k x).length ≤ k := by
        intro k
        induction k with
        | zero => intro x; simp [back]
        | succ k ih =>
          intro x
          simp only [back]
          split
          · simp
          · simp [ih]
      exact hbl2 N u
    generalize back i b1 N u = l at *
    subst hccE
    simp
    refine h49 _ _ _ ?_
    refine h47 _ _ _ ?_
    clear h47 h49 h50 h51 hc5 hcc hDa qb1 qb1' qb1l qb1l'
    refine ab_seq_k fun K55 h55 => ?_
    simp [at3c]
    have hll : l.length < 1000000 := by
      omega
    have hrv := rev87 (σ := σ ++ [O.row 0 (ints b1), W, O.row ver2 (ints (wI (i :: l)))]) (id := σ.length + 2) (ver := ver2) (x := (i : Int)) (l := wI l) at3c (by simpa using hll)
    rw [wI_len, st3c] at hrv
    refine ⟨by omega, callK_of hrv ?_⟩
    simp
    refine h55 _ _ _ ?_
    clear h55 K55
    have hwr : (i : Int) :: (wI l).reverse = wI (i :: l.reverse) := by simp [wI]
    rw [hwr, ← hcir]
    have hcl : l.length + 1 = (circOf N i b1).length := by rw [hcir]; simp
    have hne : (circOf N i b1) ≠ [] := by rw [hcir]; simp
    rw [hcl]
    rw [← hbf] at hstepr
    simp only [stepR] at hstepr
    generalize circOf N i b1 = co at *
    have hfr : frz (k0 + 2) σ.length (σ ++ [O.row 0 (ints b1), W, O.row ver2 (ints (wI co))]) (.s (σ.length + 2) ver2 0 co.length 1) = resV co := by
      have := frz_ints (k := k0) (n := σ.length) (id := σ.length + 2) (ver := ver2) (σ := σ ++ [O.row 0 (ints b1), W, O.row ver2 (ints (wI co))]) (l := wI co) at3c (by omega)
      rw [wI_len] at this
      rw [this]
      unfold resV
      cases co with
      | nil => exact absurd rfl hne
      | cons x r => simp
    refine ab_seq_k fun K56 h56 => ?_
    refine ab_seq_k fun K57 h57 => ?_
    have hgo : ∀ env t, get env 102 = .b t → t = decide (out = [] ∨ co.length < out.length) → get env 0 = .i .i64 N → get env 1 = mv → get env 5 = resV out → get env 14 = .s (σ.length + 2) ver2 0 co.length 1 → get env 16 = .i .i64 N → get env 17 = .i .i64 i →
        K57 (some 0) env (σ ++ [O.row 0 (ints b1), W, O.row ver2 (ints (wI co))]) := by
      intro env t w102 ht w0 w1 w5 w14 w16 w17
      refine h57 _ _ _ ?_
      refine ab_cond_of (by rw [ev_t]; exact w102) (fun h => ?_) (fun h => ?_)
      · rw [ht] at h
        rw [if_pos (of_decide_eq_true h)] at hstepr
        simp [w0, w1, w14, w16, w17]
        refine h56 _ _ _ ?_
        exact hnext _ _ co hstepr rfl rfl hfr rfl rfl
      · rw [ht] at h
        rw [if_neg (of_decide_eq_false h)] at hstepr
        simp
        refine h56 _ _ _ ?_
        exact hnext _ _ out hstepr w0 w1 (by rw [w5]; exact hres _ _) w16 w17
    by_cases ho : out = []
    · simp [at3c, resV, ho]
      exact hgo _ _ rfl (by simp [ho]) rfl rfl (by simp [resV, ho]) rfl rfl rfl
    · by_cases hco : co.length < out.length
      · simp [at3c, resV, ho, hco]
        exact hgo _ _ rfl (by simp [hco]) rfl rfl (by simp [resV, ho]) rfl rfl rfl
      · simp [at3c, resV, ho, hco]
        exact hgo _ _ rfl (by simp [ho, hco]) rfl rfl (by simp [resV, ho]) rfl rfl rfl
theorem circle73 {N id c : Nat} {E : List Ent} {F : Nat → Nat → Int} {σ : List O} (hN1 : 1 ≤ N) (hN : N ≤ 10) (hO : OwOK N E c F) (hid : σ[id]? = some (.map (mpV E) c)) :
    FSpec Try.prog 73 [.i .i64 N, .m id] σ (resV (circF (edF F) N)) σ := by
  have hidl := (List.getElem?_eq_some_iff.1 hid).1
  refine circle73g hN1 hN (fun a b h => (hO.lt a b h).2.1) (fun g a b C hC => ?_) (fun k τ => frz_m hidl)
  refine lkpC_ok (k := [(a : Int), (b : Int)]) hO.ok (app_get hid) ?_ rfl
  rw [hO.lk]
  by_cases h : F a b = 0
  · rw [if_pos h] at hC ⊢
    exact hC
  · rw [if_neg h] at hC ⊢
    exact hC
theorem circle73s {N c : Nat} {E : List Ent} {F : Nat → Nat → Int} {σ : List O} (hN1 : 1 ≤ N) (hN : N ≤ 10) (hO : OwOK N E c F) :
    FSpec Try.prog 73 [.i .i64 N, .sm ((mpV E).map (·.2))] σ (resV (circF (edF F) N)) σ := by
  refine circle73g hN1 hN (fun a b h => (hO.lt a b h).2.1) (fun g a b C hC => ?_) (fun k τ => frz_pure (pure_mpV hO.pure))
  refine lkpC_sm (n := 2) (k := [(a : Int), (b : Int)]) (by omega) hO.ok.len ?_ rfl
  rw [hO.lk]
  by_cases h : F a b = 0
  · rw [if_pos h] at hC ⊢
    exact hC
  · rw [if_neg h] at hC ⊢
    exact hC
end Go.Ab
