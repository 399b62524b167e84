/- waves: the walk. -/
import Derived.Test.YtgndegccjhdmmaaGreatJD
set_option linter.unusedVariables false
set_option linter.unusedSimpArgs false
set_option maxHeartbeats 4000000
set_option maxRecDepth 100000
namespace Go.Ab
open Go Go.Proofs

variable {J : List Lg} {B : List Nat} {fJ fb : Bool} {st : V}
theorem app_get {σ g : List O} {i : Nat} {o : O} (h : σ[i]? = some o) : (σ ++ g)[i]? = some o := by
  rw [List.getElem?_append_left (List.getElem?_eq_some_iff.1 h).1]; exact h
theorem wr_step {keys r : Nat} {n : Nat} : wr J B keys (r + 1) n = if n < J.length ∧ (!(gk J B keys r).testBit n && frB J B n (gk J B keys r)) = true then (r : Int) + 1 else wr J B keys r n := rfl
def midW (J : List Lg) (B : List Nat) (keys r i : Nat) : Nat → Int := fun j => if j < i then wr J B keys (r + 1) j else wr J B keys r j
theorem midW_set {keys r i : Nat} : rowF 12 (upd (midW J B keys r i) i (wr J B keys (r + 1) i)) = rowF 12 (midW J B keys r (i + 1)) := by
  refine rowF_congr fun j _ => ?_
  unfold upd midW
  by_cases h : j = i
  · subst h; simp
  · rw [if_neg h]
    by_cases h2 : j < i
    · rw [if_pos h2, if_pos (by omega)]
    · rw [if_neg h2, if_neg (by omega)]
theorem midW_same {keys r i : Nat} (h : wr J B keys (r + 1) i = wr J B keys r i) : rowF 12 (midW J B keys r i) = rowF 12 (midW J B keys r (i + 1)) := by
  refine rowF_congr fun j _ => ?_
  unfold midW
  by_cases h2 : j < i
  · rw [if_pos h2, if_pos (by omega)]
  · rw [if_neg h2]
    by_cases h3 : j = i
    · subst h3; simp [h]
    · rw [if_neg (by omega)]
theorem round_same {keys r : Nat} (hN : J.length ≤ 12) (h : rowF 12 (wr J B keys (r + 1)) = rowF 12 (wr J B keys r)) : gk J B keys (r + 1) = gk J B keys r := by
  refine gk_done fun n hn => ?_
  have h1 := rowF_inj.1 h n (by omega)
  rw [wr_step] at h1
  have h2 := wr_b (J := J) (B := B) (keys := keys) (r := r) (n := n)
  cases hc : (!(gk J B keys r).testBit n && frB J B n (gk J B keys r)) with
  | false => rfl
  | true =>
    rw [if_pos ⟨hn, hc⟩] at h1
    omega
theorem round_more {keys r : Nat} (h : rowF 12 (wr J B keys (r + 1)) ≠ rowF 12 (wr J B keys r)) : cntN (gk J B keys (r + 1)) J.length < cntN (gk J B keys r) J.length := by
  have hmono : ∀ j, (gk J B keys r).testBit j = true → (gk J B keys (r + 1)).testBit j = true := fun j hj => by
    show (newTo J B (gk J B keys r) J.length).testBit j = true
    rw [newTo_bit, hj]; rfl
  refine cntN_lt hmono ?_
  false_or_by_contra
  rename_i hno
  refine h (rowF_congr fun j _ => ?_)
  rw [wr_step, if_neg]
  rintro ⟨h1, h2⟩
  refine hno ⟨j, h1, ?_, ?_⟩
  · simp at h2; exact h2.1
  · show (newTo J B (gk J B keys r) J.length).testBit j = true
    rw [newTo_bit]
    simp at h2
    simp [h1, h2]

theorem waves63 {keys : Nat} {σ : List O} (hB : SmallB J B) (hN : J.length ≤ 12) (hk : keys < 65536) (hst : st.pure = true) :
    FSpec Tryz.prog 63 [hpV J fJ B fb st, .i .u16 keys] σ (.agg (ints (rowF 12 (wr J B keys J.length)))) σ := by
  refine FSpec.frame (σ := σ) ?_ (by simp [hst]) (by simp)
  refine fn63.spec0 mixed noIt_ok ?_
  rw [ic63]
  have ez : List.replicate 12 (V.i .i64 0) = ints (rowF 12 (fun _ => 0)) := rfl
  have ez2 : rep 12 [V.i .i64 0] = ints (rowF 12 (fun _ => 0)) := rfl
  refine ab_seq_k fun K1 h1 => ?_
  simp [-List.reduceReplicate, ez]
  refine h1 _ _ _ ?_
  clear h1 K1
  refine ab_seq_k fun K2 h2 => ?_
  simp [-List.reduceReplicate, ez]
  refine h2 _ _ _ ?_
  clear h2 K2
  refine ab_seq_k fun K3 h3 => ?_
  simp [-List.reduceReplicate, ez]
  refine h3 _ _ _ ?_
  clear h3 K3
  rw [show rep 12 [V.i .i64 0] ++ List.drop (rep 12 [V.i .i64 0]).length (ints (rowF 12 fun _ => 0)) = ints (rowF 12 fun _ => 0) from rfl]
  refine ab_seq_k fun K4 h4 => ?_
  refine ab_seq_k fun K5 h5 => ?_
  simp
  refine h5 _ _ _ ?_
  clear h5 K5
  refine ab_block_k fun K6 h6 => ?_
  refine ab_loop_k (fun m env σ => ∃ i : Nat, i + m = J.length ∧ env = [(0, hpV J fJ B fb st), (1, .i .u16 keys), (4, .p 0 0 0), (5, .p 1 0 0), (19, .i .i64 J.length), (20, .i .i64 i)] ∧ σ[0]? = some (.row 0 (ints (rowF 12 fun _ => 0))) ∧ σ[1]? = some (.row 0 (ints (rowF 12 fun j => if j < i then wr J B keys 0 j else 0)))) J.length ⟨0, by omega, by simp, rfl, by simp⟩ ?_
  rintro m env σ ⟨i, hi, rfl, s0, s1⟩ K7 h7
  rw [ic63_0]
  refine ab_seq_k fun K8 h8 => ?_
  simp
  refine h8 _ _ _ ?_
  clear h8 K8
  refine ab_seq_k fun K9 h9 => ?_
  refine ab_cond_of rfl (fun hc => ?_) (fun hc => ?_)
  · have hil : i < J.length := by simpa using hc
    simp
    refine h9 _ _ _ ?_
    clear h9 K9
    refine ab_seq_k fun K10 h10 => ?_
    refine ab_block_k fun K11 h11 => ?_
    refine ab_seq_k fun K12 h12 => ?_
    simp
    refine h12 _ _ _ ?_
    clear h12 K12
    have hend : ∀ env σ, get env 0 = hpV J fJ B fb st → get env 1 = .i .u16 keys → get env 4 = .p 0 0 0 → get env 5 = .p 1 0 0 → get env 19 = .i .i64 J.length → get env 20 = .i .i64 i → σ[0]? = some (.row 0 (ints (rowF 12 fun _ => 0))) → σ[1]? = some (.row 0 (ints (rowF 12 fun j => if j < i + 1 then wr J B keys 0 j else 0))) → K11 (some 0) env σ := by
      intro env σ w0 w1 w4 w5 w19 w20 a0 a1
      refine h11 _ _ _ (h10 _ _ _ ?_)
      simp [w0, w1, w4, w5, w19, w20, wrap64 (x := (i : Int) + 1) (by omega) (by omega)]
      exact h7 _ _ _ (again (m - 1) (by omega) ⟨i + 1, by omega, by simp, a0, a1⟩)
    clear h10 h11 h7
    refine ab_seq_k fun K13 h13 => ?_
    simp
    refine callK_of (has83 hk (by omega)) ?_
    simp
    refine h13 _ _ _ ?_
    clear h13 K13
    cases hb : keys.testBit i with
    | false =>
      refine ab_cond_of rfl (fun _ => ?_) (fun h => by cases h)
      have hi12 : i < 12 := by omega
      have hw : wr J B keys 0 i = -1 := by simp [wr, hil, hb]
      have hset : rowF 12 (upd (fun j => if j < i then wr J B keys 0 j else 0) i (-1)) = rowF 12 (fun j => if j < i + 1 then wr J B keys 0 j else 0) := by
        refine rowF_congr fun j _ => ?_
        unfold upd
        by_cases h : j = i
        · subst h; simp [hw]
        · rw [if_neg h]
          show (if j < i then wr J B keys 0 j else 0) = _
          by_cases h2 : j < i
          · rw [if_pos h2, if_pos (by omega)]
          · rw [if_neg h2, if_neg (by omega)]
      generalize hF : (fun j => if j < i then wr J B keys 0 j else (0 : Int)) = F at *
      obtain ⟨hs1, s1'⟩ := List.getElem?_eq_some_iff.1 s1
      simp [s1, s1', hi12]
      rw [ints_set, rowF_set, hset]
      exact ⟨by omega, hend _ _ rfl rfl rfl rfl rfl rfl (by rw [List.getElem?_set_ne (by omega)]; exact s0) (List.getElem?_set_self hs1)⟩
    | true =>
      refine ab_cond_of rfl (fun h => by cases h) (fun _ => ?_)
      simp
      refine hend _ _ rfl rfl rfl rfl rfl rfl s0 ?_
      rw [s1]
      have : rowF 12 (fun j => if j < i then wr J B keys 0 j else 0) = rowF 12 (fun j => if j < i + 1 then wr J B keys 0 j else 0) := by
        refine rowF_congr fun j _ => ?_
        have hw : wr J B keys 0 i = 0 := by simp [wr, hb]
        by_cases h2 : j < i
        · rw [if_pos h2, if_pos (by omega)]
        · rw [if_neg h2]
          by_cases h : j = i
          · subst h; simp [hw]
          · rw [if_neg (by omega)]
      rw [this]
  · have hil : i = J.length := by simp at hc; omega
    subst hil
    have hw0 : rowF 12 (fun j => if j < J.length then wr J B keys 0 j else 0) = rowF 12 (wr J B keys 0) := by
      refine rowF_congr fun j _ => ?_
      by_cases h : j < J.length
      · rw [if_pos h]
      · rw [if_neg h]; simp [wr, h]
    rw [hw0] at s1
    clear hw0
    simp
    refine h6 _ _ _ (h4 _ _ _ ?_)
    clear h4 h6 h7 h9 K4 K6 K7 K9
    refine ab_seq_k fun K20 h20 => ?_
    simp
    refine h20 _ _ _ ?_
    clear h20 K20
    refine ab_seq_k fun K21 h21 => ?_
    simp
    refine h21 _ _ _ ?_
    clear h21 K21
    refine ab_seq_k fun K22 h22 => ?_
    simp
    refine h22 _ _ _ ?_
    clear h22 K22
    have hres : ∀ r, r ≤ J.length → gk J B keys (r + 1) = gk J B keys r → rowF 12 (wr J B keys (r + 1)) = rowF 12 (wr J B keys J.length) := by
      intro r hr hg
      refine rowF_congr fun j _ => ?_
      have h1 := wr_same hg 1 j
      have h2 := wr_same hg (J.length - r) j
      rw [show r + (J.length - r) = J.length by omega] at h2
      rw [h1, h2]
    refine ab_block_k fun K23 h23 => ?_
    refine ab_loop_k (fun m env σ => ∃ r : Nat, m + r = J.length + 1 ∧ r + cntN (gk J B keys r) J.length ≤ J.length ∧ env = [(0, hpV J fJ B fb st), (4, .p 0 0 0), (5, .p 1 0 0), (7, .f (.func 97) [hpV J fJ B fb st] []), (8, .i .u16 (gk J B keys r)), (9, .i .i64 ((r : Int) + 1))] ∧ σ[0]? = some (.row 0 (ints (rowF 12 fun _ => 0))) ∧ σ[1]? = some (.row 0 (ints (rowF 12 (wr J B keys r))))) (J.length + 1)
      ⟨0, by omega, by have := cntN_le (s := gk J B keys 0) (n := J.length); omega, by simp [gk], s0, s1⟩ ?_
    clear s0 s1 σ
    rintro m env σ ⟨r, hm, hcnt, rfl, s0, s1⟩ K24 h24
    have hglt := gk_lt (B := B) (r := r) hk (by omega : J.length ≤ 16)
    obtain ⟨hs1, s1'⟩ := List.getElem?_eq_some_iff.1 s1
    obtain ⟨hs0, s0'⟩ := List.getElem?_eq_some_iff.1 s0
    rw [ic63_2]
    refine ab_seq_k fun K25 h25 => ?_
    refine ab_block_k fun K26 h26 => ?_
    refine ab_seq_k fun K27 h27 => ?_
    simp [-List.reduceReplicate, ez, s1, s1']
    refine h27 _ _ _ ?_
    clear h27 K27
    have hspl : splice (ints (rowF 12 fun _ => 0)) 0 (ints (rowF 12 (wr J B keys r))) = ints (rowF 12 (wr J B keys r)) := rfl
    refine ab_seq_k fun K28 h28 => ?_
    refine ab_seq_k fun K29 h29 => ?_
    simp
    refine h29 _ _ _ ?_
    clear h29 K29
    refine ab_block_k fun K30 h30 => ?_
    rw [show List.take 12 (ints (rowF 12 (wr J B keys r))) ++ List.drop 12 (ints (rowF 12 fun _ => 0)) = ints (rowF 12 (midW J B keys r 0)) from rfl]
    have hm0 : rowF 12 (wr J B keys r) = rowF 12 (midW J B keys r 0) := rfl
    rw [hm0] at s1
    have t0 := app_get (g := [O.row 0 (ints (rowF 12 (midW J B keys r 0)))]) s0
    have t1 := app_get (g := [O.row 0 (ints (rowF 12 (midW J B keys r 0)))]) s1
    have t2 : (σ ++ [O.row 0 (ints (rowF 12 (midW J B keys r 0)))])[σ.length]? = some (O.row 0 (ints (rowF 12 (wr J B keys r)))) := by simp; rfl
    have hL : 2 ≤ σ.length := by omega
    clear s0' s1' hs0 hs1
    generalize hgk : gk J B keys r = now at *
    generalize σ ++ [O.row 0 (ints (rowF 12 (midW J B keys r 0)))] = U at *
    generalize σ.length = L at *
    clear s0 s1 σ
    refine ab_loop_k (fun m2 env σ => ∃ i : Nat, i + m2 = J.length ∧ env = [(0, hpV J fJ B fb st), (4, .p 0 0 0), (5, .p 1 0 0), (7, .f (.func 97) [hpV J fJ B fb st] []), (8, .i .u16 (newTo J B now i)), (9, .i .i64 ((r : Int) + 1)), (10, .p L 0 0), (11, .i .u16 now), (42, .i .i64 J.length), (43, .i .i64 i)] ∧ σ[0]? = some (.row 0 (ints (rowF 12 fun _ => 0))) ∧ σ[1]? = some (.row 0 (ints (rowF 12 (midW J B keys r i)))) ∧ σ[L]? = some (.row 0 (ints (rowF 12 (wr J B keys r))))) J.length
      ⟨0, by omega, by simp [newTo], t0, t1, t2⟩ ?_
    clear t0 t1 t2 U
    rintro m2 env σ ⟨i, hi, rfl, t0, t1, t2⟩ K31 h31
    obtain ⟨ht1, t1'⟩ := List.getElem?_eq_some_iff.1 t1
    rw [ic63_1]
    refine ab_seq_k fun K32 h32 => ?_
    simp
    refine h32 _ _ _ ?_
    clear h32 K32
    refine ab_seq_k fun K33 h33 => ?_
    refine ab_cond_of rfl (fun hc => ?_) (fun hc => ?_)
    · have hil : i < J.length := by simpa using hc
      simp
      refine h33 _ _ _ ?_
      clear h33 K33
      refine ab_seq_k fun K34 h34 => ?_
      refine ab_block_k fun K35 h35 => ?_
      refine ab_seq_k fun K36 h36 => ?_
      simp
      refine h36 _ _ _ ?_
      clear h36 K36
      have hend : ∀ env σ, get env 0 = hpV J fJ B fb st → get env 4 = .p 0 0 0 → get env 5 = .p 1 0 0 → get env 7 = .f (.func 97) [hpV J fJ B fb st] [] → get env 8 = .i .u16 (newTo J B now (i + 1)) → get env 9 = .i .i64 ((r : Int) + 1) → get env 10 = .p L 0 0 → get env 11 = .i .u16 now → get env 42 = .i .i64 J.length → get env 43 = .i .i64 i → σ[0]? = some (.row 0 (ints (rowF 12 fun _ => 0))) → σ[1]? = some (.row 0 (ints (rowF 12 (midW J B keys r (i + 1))))) → σ[L]? = some (.row 0 (ints (rowF 12 (wr J B keys r)))) → K35 (some 0) env σ := by
        intro env σ w0 w4 w5 w7 w8 w9 w10 w11 w42 w43 a0 a1 a2
        refine h35 _ _ _ (h34 _ _ _ ?_)
        simp [w0, w4, w5, w7, w8, w9, w10, w11, w42, w43, wrap64 (x := (i : Int) + 1) (by omega) (by omega)]
        exact h31 _ _ _ (again (m2 - 1) (by omega) ⟨i + 1, by omega, by simp, a0, a1, a2⟩)
      clear h34 h35 h31
      have hnt : newTo J B now i < 65536 := newTo_lt hglt (by omega)
      have hbit : (newTo J B now i).testBit i = now.testBit i := by rw [newTo_bit]; simp
      have hnx : newTo J B now (i + 1) = if !now.testBit i && frB J B i now then newTo J B now i ||| 2 ^ i else newTo J B now i := rfl
      have hws : wr J B keys (r + 1) i = if i < J.length ∧ (!now.testBit i && frB J B i now) = true then (r : Int) + 1 else wr J B keys r i := by rw [wr_step, hgk]
      refine ab_seq_k fun K37 h37 => ?_
      simp
      refine callK_of (has83 hnt (by omega)) ?_
      rw [hbit]
      cases hb : now.testBit i with
      | true =>
        rw [hb] at hnx hws
        simp
        refine h37 _ _ _ ?_
        refine ab_cond_of rfl (fun h => by cases h) (fun _ => ?_)
        simp
        refine hend _ _ rfl rfl rfl rfl (by simp [hnx]) rfl rfl rfl rfl rfl t0 ?_ t2
        rw [t1, midW_same (by simpa using hws)]
      | false =>
        rw [hb] at hnx hws
        simp
        refine callK_of (free97 hB hil (by omega) hglt hst) ?_
        simp
        refine h37 _ _ _ ?_
        clear h37 K37
        cases hfr : frB J B i now with
        | false =>
          rw [hfr] at hnx hws
          refine ab_cond_of rfl (fun h => by cases h) (fun _ => ?_)
          simp
          refine hend _ _ rfl rfl rfl rfl (by simp [hnx]) rfl rfl rfl rfl rfl t0 ?_ t2
          rw [t1, midW_same (by simpa using hws)]
        | true =>
          rw [hfr] at hnx hws
          rw [if_pos ⟨hil, rfl⟩] at hws
          replace hnx : newTo J B now (i + 1) = newTo J B now i ||| 2 ^ i := by rw [hnx]; rfl
          refine ab_cond_of rfl (fun _ => ?_) (fun h => by cases h)
          have hms := midW_set (J := J) (B := B) (keys := keys) (r := r) (i := i)
          rw [hws] at hms
          generalize hG : midW J B keys r i = G at *
          have hi12 : i < 12 := by omega
          have hp : 2 ^ i < 2 ^ 16 := Nat.pow_lt_pow_right (by omega) (by omega)
          have e3 := shl_nat' (m := i) (by omega)
          have e4 := or_nat (a := newTo J B now i) (b := 2 ^ i) hnt hp
          generalize 2 ^ i = p at *
          refine ab_seq_k fun K38 h38 => ?_
          simp [t1, t1', hi12]
          rw [ints_set, rowF_set, hms]
          refine ⟨by omega, h38 _ _ _ ?_⟩
          simp [e3]
          rw [e4, ← hnx]
          refine hend _ _ rfl rfl rfl rfl rfl rfl rfl rfl rfl rfl (by rw [List.getElem?_set_ne (by omega)]; exact t0) (List.getElem?_set_self ht1) (by rw [List.getElem?_set_ne (by omega)]; exact t2)
    · have hil : i = J.length := by simp at hc; omega
      subst hil
      have hmw : rowF 12 (midW J B keys r J.length) = rowF 12 (wr J B keys (r + 1)) := by
        refine rowF_congr fun j _ => ?_
        unfold midW
        by_cases h : j < J.length
        · rw [if_pos h]
        · rw [if_neg h, wr_step, if_neg (fun h2 => h h2.1)]
      rw [hmw] at t1
      clear hmw
      have hg1 : newTo J B now J.length = gk J B keys (r + 1) := by rw [← hgk]; rfl
      rw [hg1]
      simp
      refine h30 _ _ _ (h28 _ _ _ ?_)
      clear h28 h30 h31 h33 K28 K30 K31 K33 t1' ht1
      obtain ⟨ht1, t1'⟩ := List.getElem?_eq_some_iff.1 t1
      obtain ⟨ht0, t0'⟩ := List.getElem?_eq_some_iff.1 t0
      obtain ⟨ht2, t2'⟩ := List.getElem?_eq_some_iff.1 t2
      have hik : ∀ l, intsK .i64 (ints l) = some l := fun l => by
        induction l with
        | nil => rfl
        | cons a l ih => simp [ints, intsK] at ih ⊢; simp [ih]
      have htk : ∀ F, List.take 12 (ints (rowF 12 F)) = ints (rowF 12 F) := fun F => List.take_of_length_le (by simp)
      refine ab_seq_k fun K40 h40 => ?_
      simp [htk, t1, t1', t2, t2', hik]
      refine h40 _ _ _ ?_
      clear h40 K40
      by_cases hsame : rowF 12 (wr J B keys (r + 1)) = rowF 12 (wr J B keys r)
      · refine ab_cond_of rfl (fun _ => ?_) (fun h => absurd hsame (of_decide_eq_false h))
        have hg := round_same hN hsame
        have hre := hres r (by omega) hg
        refine ab_seq_k fun K41 h41 => ?_
        simp [t1, t1', t0, t0']
        refine h41 _ _ _ ?_
        simp
        refine fin_of 2 ?_
        rw [show List.take 12 (ints (rowF 12 (wr J B keys (r + 1)))) ++ List.drop 12 (ints (rowF 12 fun _ => 0)) = ints (rowF 12 (wr J B keys (r + 1))) from rfl, hre]
        have e0 : (σ.set 0 (O.row 0 (ints (rowF 12 (wr J B keys J.length)))))[0]? = some (O.row 0 (ints (rowF 12 (wr J B keys J.length)))) := List.getElem?_set_self ht0
        generalize σ.set 0 (O.row 0 (ints (rowF 12 (wr J B keys J.length)))) = U at *
        obtain ⟨he0, e0'⟩ := List.getElem?_eq_some_iff.1 e0
        simp [-frz, rs63, e0, e0', htk]
        rw [frz_pure (by simp)]
      · refine ab_cond_of rfl (fun h => absurd (of_decide_eq_true h) hsame) (fun _ => ?_)
        have hmore := round_more (J := J) (B := B) hsame
        rw [hgk] at hmore
        simp
        refine h26 _ _ _ (h25 _ _ _ ?_)
        simp [wrap64 (x := (r : Int) + 1 + 1) (by omega) (by omega)]
        exact h24 _ _ _ (again (m - 1) (by omega) ⟨r + 1, by omega, by omega, by simp, t0, t1⟩)
end Go.Ab
