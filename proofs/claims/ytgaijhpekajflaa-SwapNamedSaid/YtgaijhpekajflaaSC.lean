/- Books: which are valid. -/
import Derived.Test.YtgaijhpekajflaaSB
set_option linter.unusedVariables false
set_option linter.unusedSimpArgs false
set_option maxHeartbeats 4000000
namespace Go.Ab
open Go Go.Proofs

def bookC (n : Int) (D : List Db) (f : Bool) : List V := [.i .i64 n, slD D f]
abbrev bookV (n : Int) (D : List Db) (f : Bool) : V := .agg (bookC n D f)
@[simp] theorem pure_bookC {n D f} : pureL (bookC n D f) = true := by simp [bookC]
@[simp] theorem len_bookC {n D f} : (bookC n D f).length = 2 := rfl
theorem take_bookC {n D f} : List.take 2 (bookC n D f) = bookC n D f := rfl
theorem get0_bookC {n D f} : (bookC n D f)[0]? = some (.i .i64 n) := rfl
theorem get1_bookC {n D f} : (bookC n D f)[1]? = some (slD D f) := rfl
theorem fit_not {lo hi x : Int} : (!fit lo hi x) = (decide (x < lo) || decide (hi < x)) := by
  unfold fit
  by_cases h1 : x < lo <;> by_cases h2 : hi < x <;> simp [h1, h2] <;> omega

def strayD (n : Int) (d : Db) : Bool := decide (d.1 = d.2.1) || !(fit 0 (n - 1) d.1 && fit 0 (n - 1) d.2.1)
def checkD (n : Int) (D : List Db) (most : Int) : Int := if D.any (strayD n) = true then 2 else if (D.any fun d => !fit 1 most d.2.2) = true then 3 else 0

theorem stray79 {n : Int} {d : Db} (hn : -9000000000000000000 ≤ n) (hn1 : n ≤ 9000000000000000000) : FSpec Try.prog 79 [.agg [.i .i64 d.1, .i .i64 d.2.1, .i .i64 d.2.2], .sp [.i .i64 n] 0] [] (.b (strayD n d)) [] := by
  refine fn79.spec0 mixed noIt_ok ?_
  rw [ic79]
  refine ab_seq_k fun K1 h1 => ?_
  simp
  refine h1 _ _ _ ?_
  clear h1 K1
  have hw := fun σ => FSpec.frame (σ := σ) (within (l := [d.1, d.2.1]) (full := true) (lo := 0) (hi := n - 1) (by simp)) (by simp) rfl
  have e : ([d.1, d.2.1].all fun x => decide ((0 : Int) ≤ x) && decide (x ≤ n - 1)) = (fit 0 (n - 1) d.1 && fit 0 (n - 1) d.2.1) := by simp [fit]
  rw [e] at hw
  refine ab_seq_k fun K2 h2 => ?_
  by_cases hq : d.1 = d.2.1
  · simp [hq]
    refine h2 _ _ _ ?_
    simp
    exact fin_of 1 (by simp [rs79, strayD, hq])
  · simp [hq, wrap64 (x := n - 1) (by omega) (by omega)]
    refine callK_of (hw _) ?_
    simp
    refine h2 _ _ _ ?_
    simp
    exact fin_of 1 (by simp [rs79, strayD, hq])
theorem range81 {most : Int} {d : Db} : FSpec Try.prog 81 [.agg [.i .i64 d.1, .i .i64 d.2.1, .i .i64 d.2.2], .sp [.i .i64 most] 0] [] (.b (!fit 1 most d.2.2)) [] := by
  refine fn81.spec0 mixed noIt_ok ?_
  rw [ic81]
  refine ab_seq_k fun K1 h1 => ?_
  simp
  refine h1 _ _ _ ?_
  clear h1 K1
  refine ab_seq_k fun K2 h2 => ?_
  simp
  refine callK_of (within0) ?_
  simp
  refine h2 _ _ _ ?_
  clear h2 K2
  simp
  exact fin_of 1 (by simp [rs81])

theorem check59 {n most : Int} {D : List Db} {f : Bool} (hn : -9000000000000000000 ≤ n) (hn1 : n ≤ 9000000000000000000) (hl : (D.length : Int) < 1000000000) : FSpec Try.prog 59 [.i .i64 n, slD D f, .i .i64 most] [] (.i .i64 (checkD n D most)) [] := by
  refine fn59.spec0 mixed noIt_ok ?_
  rw [ic59]
  refine ab_seq_k fun K1 h1 => ?_
  simp
  refine h1 _ _ _ ?_
  clear h1 K1
  refine ab_seq_k fun K2 h2 => ?_
  simp
  refine h2 _ _ _ ?_
  clear h2 K2
  refine ab_seq_k fun K3 h3 => ?_
  refine ab_block_k fun K4 h4 => ?_
  refine ab_seq_k fun K5 h5 => ?_
  simp
  refine callK_of (σ' := [O.row 0 [.i .i64 n], O.row 0 [.i .i64 most]]) (FSpec.frozen 3 (v := .b (D.any (strayD n))) ?_ rfl) ?_
  · simp
    exact containsFuncD (g := 79) (first := []) (cap := [.sp [.i .i64 n] 0]) (fun x => by simpa using stray79 hn hn1) hl
  · simp
    refine h5 _ _ _ ?_
    clear h5 K5
    refine ab_cond_of rfl (fun hc => ?_) (fun hc => ?_)
    · refine ab_seq_k fun K6 h6 => ?_
      simp
      refine h6 _ _ _ ?_
      clear h6 K6
      simp
      exact fin_of 1 (by simp [rs59, checkD, hc])
    · refine ab_seq_k fun K7 h7 => ?_
      simp
      refine callK_of (σ' := [O.row 0 [.i .i64 n], O.row 0 [.i .i64 most]]) (FSpec.frozen 3 (v := .b (D.any fun d => !fit 1 most d.2.2)) ?_ rfl) ?_
      · simp
        exact containsFuncD (g := 81) (first := []) (cap := [.sp [.i .i64 most] 0]) (fun x => by simpa using range81) hl
      · simp
        refine h7 _ _ _ ?_
        clear h7 K7
        refine ab_cond_of rfl (fun hc2 => ?_) (fun hc2 => ?_)
        · refine ab_seq_k fun K8 h8 => ?_
          simp
          refine h8 _ _ _ ?_
          clear h8 K8
          simp
          exact fin_of 1 (by simp [rs59, checkD, hc, hc2])
        · simp
          refine h4 _ _ _ ?_
          refine h3 _ _ _ ?_
          refine ab_seq_k fun K9 h9 => ?_
          simp
          refine h9 _ _ _ ?_
          clear h9 K9
          simp
          exact fin_of 1 (by simp [rs59, checkD, hc, hc2])

/-- The mills of a debt. -/
def pr (d : Db) : List Int := [d.1, d.2.1]
def checkBook (n : Int) (D : List Db) : Int :=
  if (!fit 1 10 n || decide ((40 : Int) < D.length)) = true then 6 else if checkD n D 1000000 ≠ 0 then checkD n D 1000000 else if (D.map pr).Nodup then 0 else 16

theorem great17 {n : Int} {D : List Db} {f : Bool} : FSpec Try.prog 17 [bookV n D f] [] (.b (decide ((50 : Int) < D.length))) [] := by
  refine fn17.spec0 mixed noIt_ok ?_
  rw [ic17]
  refine ab_seq_k fun K1 h1 => ?_
  simp
  refine h1 _ _ _ ?_
  clear h1 K1
  refine ab_seq_k fun K2 h2 => ?_
  simp [get1_bookC]
  refine h2 _ _ _ ?_
  clear h2 K2
  simp
  exact fin_of 1 (by simp [rs17])

/-- What the map of pairs seen so far holds. -/
structure Seen (D : List Db) (i : Nat) (E : List Ent) (c : Nat) : Prop where
  ok : MapOK 2 E c
  keys : ∀ k, k ∈ E.map (·.2.1) ↔ k ∈ (D.take i).map pr
  vals : ∀ e ∈ E, ∃ x : Int, e.2.2 = .i .i64 x ∧ 0 ≤ x ∧ x ≤ i
  len : E.length ≤ i
  dup : E.length = i ↔ ((D.take i).map pr).Nodup

theorem checkBook_ok {n : Int} {D : List Db} {f : Bool} (hl : (D.length : Int) < 9223372036854775808) : FSpec Try.prog 21 [bookV n D f] [] (.i .i64 (checkBook n D)) [] := by
  refine fn21.spec0 mixed noIt_ok ?_
  rw [ic21]
  refine ab_seq_k fun K1 h1 => ?_
  simp
  refine h1 _ _ _ ?_
  clear h1 K1
  refine ab_seq_k fun K2 h2 => ?_
  refine ab_seq_k fun K3 h3 => ?_
  simp [get0_bookC]
  refine callK_of within0 ?_
  have hret : ∀ env σ, (!fit 1 10 n || decide ((40 : Int) < D.length)) = true → get env 17 = .b true → K3 (some 0) env σ := by
    intro env σ hx w
    refine h3 _ _ _ ?_
    refine ab_cond_of w (fun _ => ?_) (fun h => by cases h)
    refine ab_seq_k fun K4 h4 => ?_
    simp
    refine h4 _ _ _ ?_
    clear h4 K4
    simp
    exact fin_of 1 (by simp [rs21, checkBook, hx])
  cases hft : fit 1 10 n with
  | false =>
    simp
    exact hret _ _ (by simp [hft]) rfl
  | true =>
    simp [get1_bookC]
    by_cases hg : (40 : Int) < D.length
    · simp [hg]
      exact hret _ _ (by simp [hg]) rfl
    have hif : ¬ (!fit 1 10 n || decide ((40 : Int) < D.length)) = true := by simp [hft, hg]
    simp [hg]
    refine h3 _ _ _ ?_
    clear h3 hret K3
    refine ab_cond_of rfl (fun h => by cases h) (fun _ => ?_)
    simp
    refine h2 _ _ _ ?_
    clear h2 K2
    have hn : 1 ≤ n ∧ n ≤ 10 := by simpa [fit] using hft
    have hck := fun σ => FSpec.frame (σ := σ) (check59 (n := n) (most := 1000000) (D := D) (f := f) (by omega) (by omega) (by omega)) (by simp) rfl
    refine ab_seq_k fun K5 h5 => ?_
    refine ab_seq_k fun K6 h6 => ?_
    simp [get0_bookC, get1_bookC]
    refine callK_of (hck _) ?_
    simp [get0_bookC, get1_bookC]
    refine h6 _ _ _ ?_
    clear h6 K6
    refine ab_seq_k fun K7 h7 => ?_
    by_cases hc : checkD n D 1000000 = 0
    case neg =>
      simp [hc]
      refine h7 _ _ _ ?_
      refine ab_cond_of rfl (fun _ => ?_) (fun h => by cases h)
      refine ab_seq_k fun K8 h8 => ?_
      simp
      refine h8 _ _ _ ?_
      clear h8 K8
      simp
      exact fin_of 1 (by simp only [rs21, checkBook]; rw [if_neg hif, if_pos hc]; simp)
    simp [hc]
    refine h7 _ _ _ ?_
    clear h7 K7
    refine ab_cond_of rfl (fun h => by cases h) (fun _ => ?_)
    simp
    refine h5 _ _ _ ?_
    clear h5 K5
    refine ab_seq_k fun K9 h9 => ?_
    simp
    refine h9 _ _ _ ?_
    clear h9 K9
    refine ab_seq_k fun K10 h10 => ?_
    refine ab_seq_k fun K11 h11 => ?_
    simp [get1_bookC]
    refine h11 _ _ _ ?_
    clear h11 K11
    refine ab_block_k fun K12 h12 => ?_
    refine ab_loop_k (fun m env σ => ∃ (i c : Nat) (E : List Ent), i + m = D.length ∧ Seen D i E c ∧ env = [(1, .p 0 0 0), (4, .m 1), (28, slD D f), (29, .i .i64 D.length), (30, .i .i64 i)] ∧ σ[0]? = some (.row 0 (bookC n D f)) ∧ σ[1]? = some (.map (mpV E) c)) D.length
      ⟨0, 0, [], by omega, ⟨MapOK.nil (by omega), by simp, by simp, by simp, by simp⟩, by simp, rfl, rfl⟩ ?_
    rintro m env σ ⟨i, c, E, hi, hS, rfl, s0, s1⟩ K13 h13
    obtain ⟨hs1, s1'⟩ := List.getElem?_eq_some_iff.1 s1
    obtain ⟨hs0, s0'⟩ := List.getElem?_eq_some_iff.1 s0
    rw [ic21_0]
    refine ab_seq_k fun K14 h14 => ?_
    simp
    refine h14 _ _ _ ?_
    clear h14 K14
    refine ab_seq_k fun K15 h15 => ?_
    refine ab_cond_of rfl (fun hc2 => ?_) (fun hc2 => ?_)
    · have hil : i < D.length := by simpa using hc2
      obtain ⟨d, hd⟩ : ∃ d, D[i]? = some d := ⟨_, List.getElem?_eq_getElem hil⟩
      obtain ⟨z1, z2, z3, z4⟩ := lsD_get hd
      have hm3 : min 3 (D.length * 3 - i * 3) = 3 := by omega
      have hle : i * 3 + 3 ≤ D.length * 3 := by omega
      simp
      refine h15 _ _ _ ?_
      clear h15 K15
      refine ab_seq_k fun K16 h16 => ?_
      refine ab_block_k fun K17 h17 => ?_
      refine ab_seq_k fun K18 h18 => ?_
      simp [z1, hm3, hle, hil]
      refine h18 _ _ _ ?_
      clear h18 K18
      have t0 := app_get (g := [O.row 0 [V.i IntKind.i64 d.1, V.i IntKind.i64 d.2.1, V.i IntKind.i64 d.2.2]]) s0
      have t1 := app_get (g := [O.row 0 [V.i IntKind.i64 d.1, V.i IntKind.i64 d.2.1, V.i IntKind.i64 d.2.2]]) s1
      have tr : (σ ++ [O.row 0 [V.i IntKind.i64 d.1, V.i IntKind.i64 d.2.1, V.i IntKind.i64 d.2.2]])[σ.length]? = some (O.row 0 [V.i IntKind.i64 d.1, V.i IntKind.i64 d.2.1, V.i IntKind.i64 d.2.2]) := by simp
      have hrl : σ.length ≠ 1 := by omega
      clear s0' s1'
      generalize hU : σ ++ [O.row 0 [V.i IntKind.i64 d.1, V.i IntKind.i64 d.2.1, V.i IntKind.i64 d.2.2]] = U at *
      generalize hri : σ.length = ri at *
      obtain ⟨htr, tr'⟩ := List.getElem?_eq_some_iff.1 tr
      obtain ⟨ht1, t1'⟩ := List.getElem?_eq_some_iff.1 t1
      have hend : ∀ env U' E' c', get env 1 = .p 0 0 0 → get env 4 = .m 1 → get env 28 = slD D f → get env 29 = .i .i64 D.length → get env 30 = .i .i64 i → U'[0]? = some (.row 0 (bookC n D f)) → U'[1]? = some (.map (mpV E') c') → Seen D (i + 1) E' c' → K17 (some 0) env U' := by
        intro env U' E' c' w1 w4 w28 w29 w30 u0 u1 hS'
        refine h17 _ _ _ ?_
        refine h16 _ _ _ ?_
        simp [w1, w4, w28, w29, w30, wrap64 (x := (i : Int) + 1) (by omega) (by omega)]
        exact h13 _ _ _ (again (m - 1) (by omega) ⟨i + 1, c', E', by omega, hS', by simp, u0, u1⟩)
      clear h13 h16 h17
      have hstep : (D.take (i + 1)).map pr = (D.take i).map pr ++ [pr d] := by rw [List.take_add_one, hd]; simp
      simp [abDs_consU, drU, recheck_cons, recheck_nil, rcK, IS.dst, tr, tr']
      refine lkpC_ok (k := [d.1, d.2.1]) hS.ok t1 ?_ rfl
      cases hlk : lk E [d.1, d.2.1] with
      | none =>
        simp [abDs_consU, drU, recheck_cons, recheck_nil, rcK, IS.dst, tr, tr']
        refine mentK_new (k := [d.1, d.2.1]) hS.ok t1 rfl hlk ?_
        have hok1 := hS.ok.push (k := [d.1, d.2.1]) (v := .i .i64 0) rfl hlk
        have u1 : (U.set 1 (O.map (mpV (E ++ [(c, [d.1, d.2.1], V.i IntKind.i64 0)])) (c + 1)))[1]? = some (O.map (mpV (E ++ [(c, [d.1, d.2.1], V.i IntKind.i64 0)])) (c + 1)) := List.getElem?_set_self ht1
        have u0 : (U.set 1 (O.map (mpV (E ++ [(c, [d.1, d.2.1], V.i IntKind.i64 0)])) (c + 1)))[0]? = some (.row 0 (bookC n D f)) := by rw [List.getElem?_set_ne (by omega)]; exact t0
        generalize U.set 1 (O.map (mpV (E ++ [(c, [d.1, d.2.1], V.i IntKind.i64 0)])) (c + 1)) = W at *
        obtain ⟨hu1, u1'⟩ := List.getElem?_eq_some_iff.1 u1
        simp [abDs_consU, drU, recheck_cons, recheck_nil, rcK, IS.dst, tr, tr', wrap64 (x := 1) (by omega) (by omega)]
        refine ⟨lkpC_ok (k := [d.1, d.2.1]) hok1 u1 (by rw [lk_push, hlk]; simp [rcK]) rfl, mestK_ok hok1 u1 (k := [d.1, d.2.1]) (v' := .i .i64 0) (j := E.length) (s := c) (by simp) ?_⟩
        rw [setAt_last]
        simp [abDs_consU, drU, recheck_cons, recheck_nil, rcK, IS.dst]
        refine hend _ _ (E ++ [(c, [d.1, d.2.1], .i .i64 1)]) (c + 1) rfl rfl rfl rfl rfl (by rw [List.getElem?_set_ne (by omega)]; exact u0) (List.getElem?_set_self hu1) ⟨hS.ok.push rfl hlk, fun k => ?_, fun e he => ?_, by have := hS.len; simp; omega, ?_⟩
        · rw [hstep, List.map_append, List.mem_append, List.mem_append, hS.keys k]; rfl
        · rcases List.mem_append.1 he with he | he
          · obtain ⟨x, x1, x2, x3⟩ := hS.vals e he
            exact ⟨x, x1, x2, by omega⟩
          · simp at he; subst he; exact ⟨1, rfl, by omega, by omega⟩
        · have hnm : pr d ∉ (D.take i).map pr := fun h => lk_none.1 hlk ((hS.keys _).2 h)
          rw [hstep, List.nodup_append]
          have hd := hS.dup
          rw [List.length_append, List.length_singleton]
          constructor
          · intro h
            refine ⟨hd.1 (by omega), by simp, fun a ha b hb => ?_⟩
            simp at hb
            subst hb
            rintro rfl
            exact hnm ha
          · intro h
            have := hd.2 h.1
            omega
      | some v =>
        obtain ⟨j, s, hj, -⟩ := lk_some hlk
        obtain ⟨x, hx, hx0, hx1⟩ := hS.vals _ (List.mem_of_getElem? hj)
        simp only at hx
        subst hx
        simp [abDs_consU, drU, recheck_cons, recheck_nil, rcK, IS.dst, tr, tr', wrap64 (x := x + 1) (by omega) (by omega)]
        refine mentK_old (k := [d.1, d.2.1]) hS.ok t1 hj ?_
        simp [abDs_consU, drU, recheck_cons, recheck_nil, rcK, IS.dst, tr, tr', wrap64 (x := x + 1) (by omega) (by omega)]
        refine ⟨lkpC_ok (k := [d.1, d.2.1]) hS.ok t1 (by rw [hlk]; simp [rcK]) rfl, mestK_ok hS.ok t1 hj ?_⟩
        simp [abDs_consU, drU, recheck_cons, recheck_nil, rcK, IS.dst]
        have hmm : pr d ∈ (D.take i).map pr := (hS.keys _).1 (List.mem_map.2 ⟨_, List.mem_of_getElem? hj, rfl⟩)
        refine hend _ _ (setAt E j (.i .i64 (x + 1))) c rfl rfl rfl rfl rfl (by rw [List.getElem?_set_ne (by omega)]; exact t0) (List.getElem?_set_self ht1) ⟨hS.ok.setAt, fun k => ?_, fun e he => ?_, by have := hS.len; simp; omega, ?_⟩
        · rw [hstep, setAt_keys, List.mem_append, hS.keys k]
          constructor
          · exact .inl
          · rintro (h | h)
            · exact h
            · simp at h; subst h; exact hmm
        · rcases setAt_mem' he with he | he
          · obtain ⟨x, x1, x2, x3⟩ := hS.vals e he
            exact ⟨x, x1, x2, by omega⟩
          · exact ⟨x + 1, he, by omega, by omega⟩
        · rw [hstep, List.nodup_append]
          have := hS.len
          constructor
          · intro h; simp at h; omega
          · rintro ⟨-, -, h⟩
            exact absurd rfl (h _ hmm _ (by simp))
    · have hil : i = D.length := by simp at hc2; omega
      subst hil
      have hdu := hS.dup
      rw [List.take_length] at hdu
      have hle := hS.len
      simp
      refine h12 _ _ _ ?_
      refine h10 _ _ _ ?_
      clear h10 h12 h13 h15
      refine ab_seq_k fun K20 h20 => ?_
      refine ab_seq_k fun K21 h21 => ?_
      simp
      refine lenmC_ok s1 ?_
      simp [s0, s0', get1_bookC]
      refine h21 _ _ _ ?_
      clear h21 K21
      refine ab_cond_of rfl (fun hc3 => ?_) (fun hc3 => ?_)
      · have hnn : ¬ (D.map pr).Nodup := fun h => by have := hdu.2 h; have := of_decide_eq_true hc3; omega
        refine ab_seq_k fun K22 h22 => ?_
        simp
        refine h22 _ _ _ ?_
        clear h22 K22
        simp
        exact fin_of 1 (by simp only [rs21, checkBook]; rw [if_neg hif, if_neg (by simp [hc]), if_neg hnn]; simp)
      · have hnn : (D.map pr).Nodup := hdu.1 (by have := of_decide_eq_false hc3; omega)
        simp
        refine h20 _ _ _ ?_
        refine ab_seq_k fun K22 h22 => ?_
        simp
        refine h22 _ _ _ ?_
        clear h22 K22
        simp
        exact fin_of 1 (by simp only [rs21, checkBook]; rw [if_neg hif, if_neg (by simp [hc]), if_pos hnn]; simp)
end Go.Ab
