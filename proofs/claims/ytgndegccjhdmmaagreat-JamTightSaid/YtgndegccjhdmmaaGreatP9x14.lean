import Derived.Test.YtgndegccjhdmmaaGreatP9x13
/- Part 14 of what the theorem in TB rests on: an abstract layer over the calculus, contracts of the functions of the program, and plain facts. -/
set_option linter.unusedVariables false
set_option linter.unusedSimpArgs false
set_option linter.constructorNameAsVariable false
set_option maxHeartbeats 4000000
set_option maxRecDepth 100000
section
namespace Go.Ab
open Go Go.Proofs
def ic9_0 : IC := (.seq (.seq (.reg [.op (some 56) none (.mov (.t 8)), .op (some 57) none (.mov (.t 5)), .op (some 58) none (.len (.t 57)), .op (some 59) none (.bin .lss (.t 56) (.t 58))] (some [1, 3, 5, 7, 8, 59])) (.cond (.t 59) .skip (.exit 2))) (.seq (.block 3 (.seq (.drw [(.op (some 62) none (.loadA 1 (.t 1)), []), (.op (some 63) none (.mov (.t 5)), []), (.op (some 64) none (.mov (.t 8)), []), (.op (some 65) none (.ixs 1 (.t 63) (.t 64)), []), (.op (some 66) none (.load1 (.t 65)), []), (.call (some 67) none 39 [(.t 62), (.t 66)], []), (.op (some 68) none (.bin .neq (.t 67) (.c (.i .i64 0))), []), (.op (some 69) none (.mov (.t 68)), []), (.op (some 70) (some (69, false)) (.mov (.t 3)), []), (.op (some 71) (some (69, false)) (.mov (.t 7)), []), (.op (some 72) (some (69, false)) (.ixs 1 (.t 70) (.t 71)), []), (.op (some 73) (some (69, false)) (.load1 (.t 72)), []), (.op (some 74) (some (69, false)) (.mov (.t 5)), []), (.op (some 75) (some (69, false)) (.mov (.t 8)), []), (.op (some 76) (some (69, false)) (.ixs 1 (.t 74) (.t 75)), []), (.op (some 77) (some (69, false)) (.load1 (.t 76)), []), (.call (some 78) (some (69, false)) 49 [(.t 73), (.t 77)], []), (.op (some 79) (some (69, false)) (.not (.t 78)), []), (.op (some 80) none (.pick (.t 69) (.c (.b true)) (.t 79)), [])] (some [1, 3, 5, 7, 8, 80])) (.cond (.t 80) (.seq (.reg [.op (some 2) none (.mov (.c (.b false)))] (some [2])) .ret) .skip))) (.reg [.op (some 60) none (.mov (.t 8)), .op (some 61) none (.bin .add (.t 60) (.c (.i .i64 1))), .op (some 8) none (.mov (.t 61))] (some [1, 3, 5, 7, 8]))))
def ic9_1 : IC := (.seq (.seq (.reg [.op (some 43) none (.mov (.t 7)), .op (some 44) none (.mov (.t 3)), .op (some 45) none (.len (.t 44)), .op (some 46) none (.bin .lss (.t 43) (.t 45))] (some [1, 3, 5, 7, 46])) (.cond (.t 46) .skip (.exit 0))) (.seq (.block 1 (.seq (.seq (.drw [(.op (some 49) none (.loadA 1 (.t 1)), []), (.op (some 50) none (.mov (.t 3)), []), (.op (some 51) none (.mov (.t 7)), []), (.op (some 52) none (.ixs 1 (.t 50) (.t 51)), []), (.op (some 53) none (.load1 (.t 52)), []), (.call (some 54) none 27 [(.t 49), (.t 53)], []), (.op (some 55) none (.bin .neq (.t 54) (.c (.i .i64 0))), [])] (some [1, 3, 5, 7, 55])) (.cond (.t 55) (.seq (.reg [.op (some 2) none (.mov (.c (.b false)))] (some [2])) .ret) .skip)) (.seq (.reg [.op (some 8) none (.mov (.c (.i .i64 0)))] (some [1, 3, 5, 7, 8])) (.block 2 (.loop (some [1, 3, 5, 7, 8]) ic9_0))))) (.reg [.op (some 47) none (.mov (.t 7)), .op (some 48) none (.bin .add (.t 47) (.c (.i .i64 1))), .op (some 7) none (.mov (.t 48))] (some [1, 3, 5, 7]))))
def ic9 : IC := (.seq (.reg [.op (some 1) none (.box (.t 0)), .op (some 2) none (.mov (.c (.b false)))] (some [1])) (.seq (.seq (.reg [.op (some 9) none (.loadA 1 (.t 1)), .call (some 10) none 47 [(.t 9)], .op (some 11) none (.not (.t 10))] (some [1, 11])) (.cond (.t 11) (.seq (.reg [.call (some 12) none 18 [], .op (some 2) none (.mov (.t 12))] (some [2])) .ret) .skip)) (.seq (.reg [.op (some 14) none (.loadA 1 (.t 1)), .call (some 15) none 31 [(.t 14)], .op (some 13) none (.mov (.t 15)), .op (some 16) none (.ext 0 (.t 13)), .op (some 17) none (.ext 1 (.t 13)), .op (some 3) none (.mov (.t 16)), .op (some 4) none (.mov (.t 17))] (some [1, 3, 4])) (.seq (.reg [.op (some 19) none (.loadA 1 (.t 1)), .call (some 20) none 36 [(.t 19)], .op (some 18) none (.mov (.t 20)), .op (some 21) none (.ext 0 (.t 18)), .op (some 22) none (.ext 1 (.t 18)), .op (some 5) none (.mov (.t 21)), .op (some 6) none (.mov (.t 22))] (some [1, 3, 4, 5, 6])) (.seq (.seq (.reg [.op (some 23) none (.mov (.t 4)), .op (some 24) none (.bin .neq (.t 23) (.c (.i .i64 0))), .op (some 25) none (.mov (.t 24)), .op (some 26) (some (25, false)) (.mov (.t 6)), .op (some 27) (some (25, false)) (.bin .neq (.t 26) (.c (.i .i64 0))), .op (some 28) none (.pick (.t 25) (.c (.b true)) (.t 27)), .op (some 29) none (.mov (.t 28)), .op (some 30) (some (29, false)) (.mov (.t 3)), .op (some 31) (some (29, false)) (.len (.t 30)), .op (some 32) (some (29, false)) (.bin .eql (.t 31) (.c (.i .i64 0))), .op (some 33) none (.pick (.t 29) (.c (.b true)) (.t 32))] (some [1, 3, 5, 33])) (.cond (.t 33) (.seq (.reg [.op (some 2) none (.mov (.c (.b false)))] (some [2])) .ret) .skip)) (.seq (.seq (.reg [.op (some 34) none (.mov (.t 3)), .op (some 35) none (.len (.t 34)), .op (some 36) none (.bin .gtr (.t 35) (.c (.i .i64 40))), .op (some 37) none (.mov (.t 36)), .op (some 38) (some (37, false)) (.mov (.t 5)), .op (some 39) (some (37, false)) (.len (.t 38)), .op (some 40) (some (37, false)) (.bin .gtr (.t 39) (.c (.i .i64 40))), .op (some 41) none (.pick (.t 37) (.c (.b true)) (.t 40))] (some [1, 3, 5, 41])) (.cond (.t 41) (.seq (.reg [.call (some 42) none 18 [], .op (some 2) none (.mov (.t 42))] (some [2])) .ret) .skip)) (.seq (.seq (.reg [.op (some 7) none (.mov (.c (.i .i64 0)))] (some [1, 3, 5, 7])) (.block 0 (.loop (some [1, 3, 5, 7]) ic9_1))) (.seq (.reg [.op (some 81) none (.mov (.t 3)), .op (some 82) none (.mov (.t 5)), .call (some 83) none 50 [(.t 81), (.t 82)], .op (some 84) none (.mov (.t 83)), .op (some 85) (some (84, true)) (.mov (.t 5)), .op (some 86) (some (84, true)) (.mov (.t 3)), .call (some 87) (some (84, true)) 50 [(.t 85), (.t 86)], .op (some 88) none (.pick (.t 84) (.t 87) (.c (.b false))), .op (some 89) none (.mov (.t 88)), .call (some 90) (some (89, true)) 18 [], .op (some 91) none (.pick (.t 89) (.t 90) (.c (.b false))), .op (some 2) none (.mov (.t 91))] (some [2])) .ret))))))))
def rs9 : List IRes := [.tmp 2]
theorem fn9 : Fn_ Tryz.prog 9 Tryz.f9 [] ic9 rs9 := ⟨by kernel_rfl, by decide, by kernel_rfl, by kernel_rfl⟩
theorem jamTight {J : List Lg} {f : Bool} {σ : List O} : FSpec Tryz.prog 9 [jamV J f] σ (.b true) σ := by
 refine FSpec.frame (σ := σ) ?_ (by simp) rfl
 refine fn9.spec0 mixed noIt_ok ?_
 rw [ic9]
 refine ab_seq_k fun K1 h1 => ?_
 simp
 refine h1 _ _ _ ?_
 clear h1 K1
 refine ab_seq_k fun K2 h2 => ?_
 refine ab_seq_k fun K3 h3 => ?_
 simp
 refine callK_of fine47 ?_
 simp
 refine h3 _ _ _ ?_
 clear h3 K3
 cases hfi : fineB J with
 | false =>
  refine ab_cond_of rfl (fun _ => ?_) (fun h => by cases h)
  refine ab_seq_k fun K4 h4 => ?_
  simp
  refine callK_of (wk _) ?_
  simp
  refine h4 _ _ _ ?_
  clear h4 K4
  simp
  exact fin_of 1 (by simp [rs9])
 | true =>
  refine ab_cond_of rfl (fun h => by cases h) (fun _ => ?_)
  obtain ⟨hJO, hck, hp⟩ := fine_ok hfi
  have hcp : ∀ p ∈ J, isL J.length p.2.1 = true := fun p h => (hp p h).1
  have hN := hJO.2.1
  have hpw := pow12 hN
  have hJ1 : J.length ≤ 1000000 := by omega
  have hl1 : ∀ x ∈ J, x.2.1.length ≤ 1000000 := fun x hx => by have := (hp x hx).2.2; omega
  have q31 := fun σ => keys31 (f := f) (σ := σ) hJ1 hl1
  have q36 := fun σ => locks36 (f := f) (σ := σ) hJ1 hl1
  have hkv : keysV J = .tup [.ss (lls (bV (lexS (keysTo J (2 ^ J.length))))) (bV (lexS (keysTo J (2 ^ J.length)))).length ((keysTo J (2 ^ J.length)).length == 0), .i .i64 0] := by
   unfold keysV
   rw [if_neg (fun h => h hck), lls_bV, bV_len, lexS_len]
  have hlv : locksV J = .tup [.ss (lls (bV (lexS (locksTo J (2 ^ J.length))))) (bV (lexS (locksTo J (2 ^ J.length)))).length ((locksTo J (2 ^ J.length)).length == 0), .i .i64 0] := by
   unfold locksV
   rw [if_neg (fun h => h hck), lls_bV, bV_len, lexS_len]
  rw [hkv] at q31
  rw [hlv] at q36
  have hmk : ∀ s, s ∈ lexS (keysTo J (2 ^ J.length)) ↔ s ∈ keysTo J (2 ^ J.length) := fun s => lexS_perm.mem_iff
  have hml : ∀ s, s ∈ lexS (locksTo J (2 ^ J.length)) ↔ s ∈ locksTo J (2 ^ J.length) := fun s => lexS_perm.mem_iff
  have hmem : ∀ (R : List Nat) p, p ∈ bV R → ∃ s ∈ R, p = (bl s 12, (bl s 12).length == 0) := fun R p hp => by
   obtain ⟨s, hs, rfl⟩ := List.mem_map.1 hp
   exact ⟨s, hs, rfl⟩
  have hbm : ∀ (R : List Nat) s, s ∈ R → (bl s 12, (bl s 12).length == 0) ∈ bV R := fun R s hs => List.mem_map.2 ⟨s, hs, rfl⟩
  have a1 : ∀ p ∈ bV (lexS (keysTo J (2 ^ J.length))), p.1.length ≤ 12 ∧ keyE J p.1 = 0 := fun p hp => by
   obtain ⟨s, hs, rfl⟩ := hmem _ p hp
   obtain ⟨h1, h2, -⟩ := (keys_mem hN).1 ((hmk s).1 hs)
   exact ⟨bl_len, by rw [keyE_bl hck h1 hN, if_neg (fun h => h h2)]⟩
  have a2 : ∀ p ∈ bV (lexS (locksTo J (2 ^ J.length))), p.1.length ≤ 12 ∧ lockE J p.1 = 0 := fun p hp => by
   obtain ⟨s, hs, rfl⟩ := hmem _ p hp
   obtain ⟨h1, h2⟩ := List.mem_filter.1 ((hml s).1 hs)
   exact ⟨bl_len, lockE_bl hck hN (List.mem_range.1 h1) (minLock_iff.1 h2).1⟩
  have a3 : ∀ p ∈ bV (lexS (keysTo J (2 ^ J.length))), ∀ q ∈ bV (lexS (locksTo J (2 ^ J.length))), meetB p.1 q.1 = true := fun p hp q hq => by
   obtain ⟨s, hs, rfl⟩ := hmem _ p hp
   obtain ⟨t, ht, rfl⟩ := hmem _ q hq
   obtain ⟨h1, h2, -⟩ := (keys_mem hN).1 ((hmk s).1 hs)
   obtain ⟨h3, h4⟩ := List.mem_filter.1 ((hml t).1 ht)
   rw [List.mem_range] at h3
   have := meet_set (A := bl s 12) (B := bl t 12) bl_nn bl_nn
   rw [setB_bl (by omega), setB_bl (by omega)] at this
   exact this.2 (lock_meets hN (by omega) h3 (minLock_iff.1 h4).1 h2)
  have a4 : ∀ p ∈ bV (lexS (keysTo J (2 ^ J.length))), ∀ x ∈ p.1, ∃ q ∈ bV (lexS (locksTo J (2 ^ J.length))), cntIn q.1 p.1 = 1 ∧ x ∈ q.1 := fun p hp x hx => by
   obtain ⟨s, hs, rfl⟩ := hmem _ p hp
   obtain ⟨n, hn, rfl, hb⟩ := bl_mem.1 hx
   obtain ⟨t, ht, he⟩ := key_alone hN hcp ((hmk s).1 hs) hb
   refine ⟨_, hbm _ t ((hml t).2 ht), cnt_one hn he, bl_mem.2 ⟨n, hn, rfl, ?_⟩⟩
   have := congrArg (fun z => z.testBit n) he
   simp only [Nat.testBit_and, Nat.testBit_two_pow_self, Bool.and_eq_true] at this
   exact this.2
  have a5 : ∀ p ∈ bV (lexS (locksTo J (2 ^ J.length))), ∀ x ∈ p.1, ∃ q ∈ bV (lexS (keysTo J (2 ^ J.length))), cntIn q.1 p.1 = 1 ∧ x ∈ q.1 := fun p hp x hx => by
   obtain ⟨t, ht, rfl⟩ := hmem _ p hp
   obtain ⟨n, hn, rfl, hb⟩ := bl_mem.1 hx
   obtain ⟨s, hs, he⟩ := lock_alone hN hcp ((hml t).1 ht) hb
   refine ⟨_, hbm _ s ((hmk s).2 hs), cnt_one hn (by rw [Nat.and_comm]; exact he), bl_mem.2 ⟨n, hn, rfl, ?_⟩⟩
   have := congrArg (fun z => z.testBit n) he
   simp only [Nat.testBit_and, Nat.testBit_two_pow_self, Bool.and_eq_true] at this
   exact this.1
  have hne : 0 < (bV (lexS (keysTo J (2 ^ J.length)))).length := by
   rw [bV_len, lexS_len]
   exact List.length_pos_iff.2 (keys_ne hN)
  have hkb : (bV (lexS (keysTo J (2 ^ J.length)))).length ≤ 60000 := by
   rw [bV_len, lexS_len]
   have := keysTo_len (J := J) (i := 2 ^ J.length)
   omega
  have hlb : (bV (lexS (locksTo J (2 ^ J.length)))).length ≤ 60000 := by
   rw [bV_len, lexS_len]
   have := locksTo_len (J := J) (i := 2 ^ J.length)
   omega
  clear hmk hml hmem hbm hkv hlv
  generalize ((keysTo J (2 ^ J.length)).length == 0) = fk at *
  generalize ((locksTo J (2 ^ J.length)).length == 0) = fl at *
  generalize bV (lexS (keysTo J (2 ^ J.length))) = A at *
  generalize bV (lexS (locksTo J (2 ^ J.length))) = B at *
  simp
  refine h2 _ _ _ ?_
  clear h2 K2
  refine ab_seq_k fun K5 h5 => ?_
  simp
  refine callK_of (q31 _) ?_
  simp
  refine h5 _ _ _ ?_
  clear h5 K5
  refine ab_seq_k fun K6 h6 => ?_
  simp
  refine callK_of (q36 _) ?_
  simp
  refine h6 _ _ _ ?_
  clear h6 K6
  refine ab_seq_k fun K7 h7 => ?_
  have hA0 : A ≠ [] := List.length_pos_iff.1 hne
  refine ab_seq_k fun K8 h8 => ?_
  simp [hA0]
  refine h8 _ _ _ ?_
  clear h8 K8
  refine ab_cond_of rfl (fun h => by simp [hA0] at h) (fun _ => ?_)
  simp
  refine h7 _ _ _ ?_
  clear h7 K7
  refine ab_seq_k fun K9 h9 => ?_
  refine ab_seq_k fun K10 h10 => ?_
  have hK10 : ∀ env c, get env 1 = .p 0 0 0 → get env 3 = .ss (lls A) A.length fk → get env 5 = .ss (lls B) B.length fl → get env 41 = .b c → c = (decide (40 < A.length) || decide (40 < B.length)) → K10 (some 0) env [.row 0 [slJ J f]] := by
   intro env c w1 w3 w5 w41 hcv
   refine h10 _ _ _ ?_
   clear h10 K10
   cases c with
   | true =>
    refine ab_cond_of w41 (fun _ => ?_) (fun h => by cases h)
    refine ab_seq_k fun K11 h11 => ?_
    simp
    refine callK_of (wk _) ?_
    simp
    refine h11 _ _ _ ?_
    clear h11 K11
    simp
    exact fin_of 1 (by simp [rs9])
   | false =>
    refine ab_cond_of w41 (fun h => by cases h) (fun _ => ?_)
    have hcv' := hcv.symm
    rw [Bool.or_eq_false_iff, decide_eq_false_iff_not, decide_eq_false_iff_not] at hcv'
    obtain ⟨hA40, hB40⟩ := hcv'
    simp [w1, w3, w5]
    refine h9 _ _ _ ?_
    clear h9 K9
    refine ab_seq_k fun K12 h12 => ?_
    refine ab_seq_k fun K13 h13 => ?_
    simp [w1, w3, w5]
    refine h13 _ _ _ ?_
    clear h13 K13
    refine ab_block_k fun K14 h14 => ?_
    refine ab_loop_k (fun m env σ => ∃ i : Nat, i + m = A.length ∧ env = [(1, .p 0 0 0), (3, .ss (lls A) A.length fk), (5, .ss (lls B) B.length fl), (7, .i .i64 i)] ∧ σ = [.row 0 [slJ J f]]) A.length ⟨0, by omega, by simp [w1, w3, w5], rfl⟩ ?_
    rintro m env2 σ ⟨i, hi, rfl, rfl⟩ K15 h15
    rw [ic9_1]
    refine ab_seq_k fun K16 h16 => ?_
    refine ab_seq_k fun K17 h17 => ?_
    simp
    refine h17 _ _ _ ?_
    clear h17 K17
    refine ab_cond_of rfl (fun hc1 => ?_) (fun hc1 => ?_)
    ·have hil : i < A.length := by simp at hc1; omega
     have hp : A[i]? = some A[i] := List.getElem?_eq_getElem hil
     have hpm : A[i] ∈ A := List.getElem_mem hil
     generalize A[i] = p at *
     obtain ⟨hpl, hpe⟩ := a1 p hpm
     have hpq := a3 p hpm
     have hlp := lls_get hp
     obtain ⟨g1, g2⟩ := List.getElem?_eq_some_iff.1 hlp
     have q27 := fun σ => checkKeys27 (f := f) (fk := p.2) (k := p.1) (σ := σ) hJ1 hl1 (by omega)
     rw [hpe] at q27
     simp
     refine h16 _ _ _ ?_
     clear h16 K16
     refine ab_seq_k fun K18 h18 => ?_
     refine ab_block_k fun K19 h19 => ?_
     refine ab_seq_k fun K20 h20 => ?_
     refine ab_seq_k fun K21 h21 => ?_
     simp [abDs_consU, drU, recheck_cons, recheck_nil, rcK, IS.dst, hil, hlp, g1, g2]
     refine callK_of (q27 _) ?_
     simp [abDs_consU, drU, recheck_cons, recheck_nil, rcK, IS.dst]
     refine h21 _ _ _ ?_
     clear h21 K21
     refine ab_cond_of rfl (fun h => by cases h) (fun _ => ?_)
     simp
     refine h20 _ _ _ ?_
     clear h20 K20
     refine ab_seq_k fun K22 h22 => ?_
     simp
     refine h22 _ _ _ ?_
     clear h22 K22
     refine ab_block_k fun K23 h23 => ?_
     refine ab_loop_k (fun m env σ => ∃ k : Nat, k + m = B.length ∧ env = [(1, .p 0 0 0), (3, .ss (lls A) A.length fk), (5, .ss (lls B) B.length fl), (7, .i .i64 i), (8, .i .i64 k)] ∧ σ = [.row 0 [slJ J f]]) B.length ⟨0, by omega, by simp, rfl⟩ ?_
     rintro m2 env3 σ ⟨k, hk, rfl, rfl⟩ K24 h24
     rw [ic9_0]
     refine ab_seq_k fun K25 h25 => ?_
     refine ab_seq_k fun K26 h26 => ?_
     simp
     refine h26 _ _ _ ?_
     clear h26 K26
     refine ab_cond_of rfl (fun hc2 => ?_) (fun hc2 => ?_)
     ·have hkl : k < B.length := by simp at hc2; omega
      have hq : B[k]? = some B[k] := List.getElem?_eq_getElem hkl
      have hqm : B[k] ∈ B := List.getElem_mem hkl
      generalize B[k] = q at *
      obtain ⟨hql, hqe⟩ := a2 q hqm
      have hmt := hpq q hqm
      have hlq := lls_get hq
      obtain ⟨g3, g4⟩ := List.getElem?_eq_some_iff.1 hlq
      have q39 := fun σ => check39 (f := f) (fk := q.2) (k := q.1) (σ := σ) hJ1 hl1 (by omega)
      rw [hqe] at q39
      have q49 := fun σ => meet49 (A := p.1) (B := q.1) (fa := p.2) (fb := q.2) (σ := σ) (by omega) (by omega)
      rw [hmt] at q49
      simp
      refine h25 _ _ _ ?_
      clear h25 K25
      refine ab_seq_k fun K27 h27 => ?_
      refine ab_block_k fun K28 h28 => ?_
      refine ab_seq_k fun K29 h29 => ?_
      simp [abDs_consU, drU, recheck_cons, recheck_nil, rcK, IS.dst, hil, hlp, g1, g2, hkl, hlq, g3, g4]
      refine callK_of (q39 _) ?_
      simp [abDs_consU, drU, recheck_cons, recheck_nil, rcK, IS.dst, hil, hlp, g1, g2, hkl, hlq, g3, g4]
      refine callK_of (q49 _) ?_
      simp [abDs_consU, drU, recheck_cons, recheck_nil, rcK, IS.dst]
      refine h29 _ _ _ ?_
      clear h29 K29
      refine ab_cond_of rfl (fun h => by cases h) (fun _ => ?_)
      simp
      refine h28 _ _ _ (h27 _ _ _ ?_)
      simp [wrap64 (x := (k : Int) + 1) (by omega) (by omega)]
      exact h24 _ _ _ (again (m2 - 1) (by omega) ⟨k + 1, by omega, by simp, rfl⟩)
     ·simp
      refine h23 _ _ _ (h19 _ _ _ (h18 _ _ _ ?_))
      simp [wrap64 (x := (i : Int) + 1) (by omega) (by omega)]
      exact h15 _ _ _ (again (m - 1) (by omega) ⟨i + 1, by omega, by simp, rfl⟩)
    ·simp
     refine h14 _ _ _ (h12 _ _ _ ?_)
     have q50a := fun σ => alone50 (A := A) (B := B) (fA := fk) (fB := fl) (σ := σ) (by omega) (by omega) (fun p hp => by have := (a1 p hp).1; omega) (fun p hp => by have := (a2 p hp).1; omega) a4
     have q50b := fun σ => alone50 (A := B) (B := A) (fA := fl) (fB := fk) (σ := σ) (by omega) (by omega) (fun p hp => by have := (a2 p hp).1; omega) (fun p hp => by have := (a1 p hp).1; omega) a5
     refine ab_seq_k fun K30 h30 => ?_
     simp
     refine callK_of (q50a _) ?_
     simp
     refine callK_of (q50b _) ?_
     simp
     refine callK_of (wk _) ?_
     simp
     refine h30 _ _ _ ?_
     simp
     exact fin_of 1 (by simp [rs9])
  clear h9 h10
  by_cases hA40 : (40 : Int) < A.length
  ·have hA40' : 40 < A.length := by omega
   simp [hA40]
   exact hK10 _ true rfl rfl rfl rfl (by simp [hA40'])
  ·have hA40' : ¬ 40 < A.length := by omega
   have e : decide ((40 : Int) < B.length) = decide (40 < B.length) := by rw [decide_eq_decide]; omega
   simp [hA40]
   exact hK10 _ _ rfl rfl rfl rfl (by simp [hA40', e])
end Go.Ab
end
