import Derived.Test.YtgndegccjhdmmaaGreatP6x13
/- Part 14 of what the theorem in T6 rests on: an abstract layer over the calculus, contracts of the functions of the program, and plain facts. -/
set_option linter.unusedVariables false
set_option linter.unusedSimpArgs false
set_option linter.constructorNameAsVariable false
set_option maxHeartbeats 4000000
set_option maxRecDepth 100000
section
namespace Go.Ab
open Go Go.Proofs
def ic6 : IC := (.seq (.reg [.op (some 2) none (.box (.t 0)), .op (some 4) none (.mov (.c (.b false)))] (some [1, 2])) (.seq (.seq (.reg [.op (some 15) none (.loadA 1 (.t 2)), .call (some 16) none 17 [(.t 15)], .op (some 17) none (.mov (.t 16)), .op (some 18) (some (17, false)) (.loadA 1 (.t 2)), .call (some 19) (some (17, false)) 28 [(.t 18)], .op (some 20) none (.pick (.t 17) (.c (.b true)) (.t 19)), .op (some 21) none (.mov (.t 20)), .op (some 22) (some (21, false)) (.mov (.t 1)), .call (some 23) (some (21, false)) 40 [(.t 22)], .op (some 24) none (.pick (.t 21) (.c (.b true)) (.t 23))] (some [1, 2, 24])) (.cond (.t 24) (.seq (.reg [.call (some 25) none 18 [], .op (some 4) none (.mov (.t 25))] (some [4])) .ret) .skip)) (.seq (.reg [.op (some 27) none (.loadA 1 (.t 2)), .op (some 28) none (.mov (.t 1)), .call (some 29) none 41 [(.t 27), (.t 28)], .op (some 26) none (.mov (.t 29)), .op (some 30) none (.ext 0 (.t 26)), .op (some 31) none (.ext 1 (.t 26)), .op (some 5) none (.mov (.t 30)), .op (some 6) none (.mov (.t 31))] (some [1, 2, 5, 6])) (.seq (.reg [.op (some 33) none (.loadA 1 (.t 2)), .op (some 34) none (.mov (.t 1)), .call (some 35) none 42 [(.t 33), (.t 34)], .op (some 32) none (.mov (.t 35)), .op (some 36) none (.ext 0 (.t 32)), .op (some 37) none (.ext 1 (.t 32)), .op (some 7) none (.mov (.t 36)), .op (some 8) none (.mov (.t 37))] (some [2, 5, 6, 7, 8])) (.seq (.reg [.op (some 39) none (.loadA 1 (.t 2)), .call (some 40) none 43 [(.t 39)], .op (some 38) none (.mov (.t 40)), .op (some 41) none (.ext 0 (.t 38)), .op (some 42) none (.ext 1 (.t 38)), .op (some 9) none (.mov (.t 41)), .op (some 10) none (.mov (.t 42))] (some [2, 5, 6, 7, 8, 9, 10])) (.seq (.reg [.op (some 44) none (.loadA 1 (.t 2)), .call (some 45) none 37 [(.t 44)], .op (some 43) none (.mov (.t 45)), .op (some 46) none (.ext 0 (.t 43)), .op (some 47) none (.ext 1 (.t 43)), .op (some 11) none (.mov (.t 46)), .op (some 12) none (.mov (.t 47))] (some [2, 5, 6, 7, 8, 9, 10, 11, 12])) (.seq (.seq (.reg [.op (some 48) none (.mov (.t 5)), .op (some 49) none (.mov (.t 7)), .op (some 50) none (.bin .neq (.t 48) (.t 49)), .op (some 51) none (.mov (.t 50)), .op (some 52) (some (51, false)) (.mov (.t 6)), .op (some 53) (some (51, false)) (.mov (.t 8)), .op (some 54) (some (51, false)) (.bin .neq (.t 52) (.t 53)), .op (some 55) none (.pick (.t 51) (.c (.b true)) (.t 54)), .op (some 56) none (.mov (.t 55)), .op (some 57) (some (56, false)) (.mov (.t 10)), .op (some 58) (some (56, false)) (.mov (.t 12)), .op (some 59) (some (56, false)) (.bin .neq (.t 57) (.t 58)), .op (some 60) none (.pick (.t 56) (.c (.b true)) (.t 59))] (some [2, 9, 11, 12, 60])) (.cond (.t 60) (.seq (.reg [.op (some 4) none (.mov (.c (.b false)))] (some [4])) .ret) .skip)) (.seq (.seq (.reg [.op (some 61) none (.mov (.t 12)), .op (some 62) none (.bin .neq (.t 61) (.c (.i .i64 0)))] (some [2, 9, 11, 62])) (.cond (.t 62) (.seq (.reg [.op (some 63) none (.mov (.t 9)), .op (some 64) none (.len (.t 63)), .op (some 65) none (.bin .eql (.t 64) (.c (.i .i64 0))), .op (some 66) none (.mov (.t 65)), .call (some 67) (some (66, true)) 18 [], .op (some 68) none (.pick (.t 66) (.t 67) (.c (.b false))), .op (some 4) none (.mov (.t 68))] (some [4])) .ret) .skip)) (.seq (.seq (.reg [.op (some 69) none (.mov (.t 11)), .op (some 70) none (.len (.t 69)), .op (some 71) none (.bin .gtr (.t 70) (.c (.i .i64 20)))] (some [2, 9, 11, 71])) (.cond (.t 71) (.seq (.reg [.call (some 72) none 18 [], .op (some 4) none (.mov (.t 72))] (some [4])) .ret) .skip)) (.seq (.reg [.op (some 74) none (.loadA 1 (.t 2)), .op (some 75) none (.mov (.t 9)), .call (some 76) none 42 [(.t 74), (.t 75)], .op (some 73) none (.mov (.t 76)), .op (some 77) none (.ext 0 (.t 73)), .op (some 78) none (.ext 1 (.t 73)), .op (some 13) none (.mov (.t 77)), .op (some 14) none (.mov (.t 78))] (some [11, 13, 14])) (.seq (.reg [.op (some 79) none (.mov (.t 14)), .op (some 80) none (.bin .eql (.t 79) (.c (.i .i64 0))), .op (some 81) none (.mov (.t 80)), .op (some 82) (some (81, true)) (.mov (.t 13)), .op (some 83) (some (81, true)) (.mov (.t 11)), .call (some 84) (some (81, true)) 44 [(.t 83), (.c (.i .i64 0)), (.c (.ss [] 0 true))], .op (some 85) (some (81, true)) (.bin .eql (.t 82) (.t 84)), .op (some 86) none (.pick (.t 81) (.t 85) (.c (.b false))), .op (some 87) none (.mov (.t 86)), .call (some 88) (some (87, true)) 18 [], .op (some 89) none (.pick (.t 87) (.t 88) (.c (.b false))), .op (some 4) none (.mov (.t 89))] (some [4])) .ret)))))))))))
def rs6 : List IRes := [.tmp 4]
theorem fn6 : Fn_ Tryz.prog 6 Tryz.f6 [] ic6 rs6 := ⟨by kernel_rfl, by decide, by kernel_rfl, by kernel_rfl⟩
theorem far_small {B : List (List Int × Bool)} (h : farB B = false) : B.length ≤ 16 ∧ ∀ p ∈ B, p.1.length ≤ 16 := by
 unfold farB at h
 rw [Bool.or_eq_false_iff, decide_eq_false_iff_not, List.any_eq_false] at h
 exact ⟨by omega, fun p hp => by have := h.2 p hp; rw [decide_eq_true_eq] at this; omega⟩
theorem jamAparts {J : List Lg} {f fB : Bool} {B : List (List Int × Bool)} {σ : List O} : FSpec Tryz.prog 6 [jamV J f, .ss (lls B) B.length fB] σ (.b true) σ := by
 refine FSpec.frame (σ := σ) ?_ (by simp) rfl
 refine fn6.spec0 mixed noIt_ok ?_
 rw [ic6]
 refine ab_seq_k fun K1 h1 => ?_
 simp
 refine h1 _ _ _ ?_
 clear h1 K1
 refine ab_seq_k fun K2 h2 => ?_
 refine ab_seq_k fun K3 h3 => ?_
 simp
 refine callK_of great17 ?_
 have hK3 : ∀ env c, get env 1 = .ss (lls B) B.length fB → get env 2 = .p 0 0 0 → get env 24 = .b c → c = (grB J || wideB J || farB B) → K3 (some 0) env [.row 0 [slJ J f]] := by
  intro env c w1 w2 w24 hc
  refine h3 _ _ _ ?_
  clear h3 K3
  cases c with
  | true =>
   refine ab_cond_of w24 (fun _ => ?_) (fun h => by cases h)
   refine ab_seq_k fun K4 h4 => ?_
   simp
   refine callK_of (wk _) ?_
   simp
   refine h4 _ _ _ ?_
   clear h4 K4
   simp
   exact fin_of 1 (by simp [rs6])
  | false =>
   refine ab_cond_of w24 (fun h => by cases h) (fun _ => ?_)
   have hc' := hc.symm
   rw [Bool.or_eq_false_iff, Bool.or_eq_false_iff] at hc'
   obtain ⟨⟨hgr, -⟩, hfar⟩ := hc'
   obtain ⟨hJ, hl⟩ := gr_small hgr
   obtain ⟨hB, hb⟩ := far_small hfar
   have hJ1 : J.length ≤ 1000000 := by omega
   have hl1 : ∀ x ∈ J, x.2.1.length ≤ 1000000 := fun x hx => by have := hl x hx; omega
   simp [w1, w2]
   refine h2 _ _ _ ?_
   clear h2 K2
   have q41 := fun σ => apart41 (f := f) (fB := fB) (σ := σ) hJ1 hl1 (by omega : B.length ≤ 1000000) (fun p hp => by have := hb p hp; omega)
   have q42 := fun σ => apart42 (f := f) (fB := fB) (σ := σ) hJ1 hl1 (by omega : B.length ≤ 1000000) (fun p hp => by have := hb p hp; omega)
   have q43 := fun σ => apart43 (f := f) (σ := σ) hJ1 hl1
   have q37 := fun σ => locks37 (f := f) (σ := σ) hJ1 hl1
   unfold apV at q41 q42
   generalize apN J B = n1 at *
   generalize apE J B = e1 at *
   by_cases hck : checkJ J = 0
   ·have hJO := check_ok hl1 hck
    have hN := hJO.2.1
    have hpw := pow12 hN
    have hap := apE_apL (J := J) hck hN
    have hal := apL_len (J := J)
    have has := apL_small (J := J)
    have hml : ∀ s ∈ lexS (locksTo J (2 ^ J.length)), s < 2 ^ 12 ∧ s ≠ 0 := fun s hs => by
     obtain ⟨h1, h2⟩ := List.mem_filter.1 ((lexS_perm (l := locksTo J (2 ^ J.length))).mem_iff.1 hs)
     have := List.mem_range.1 h1
     exact ⟨by omega, lock_nz (minLock_iff.1 h2).1⟩
    have hll : (lexS (locksTo J (2 ^ J.length))).length ≤ 60000 := by
     rw [lexS_len]
     have := locksTo_len (J := J) (i := 2 ^ J.length)
     omega
    have q44 := fun f σ => most44 hml hll (f := f) _ 0 [] true σ (Nat.zero_add _) (fun x hx => nomatch hx) (Nat.zero_le _)
    have q42b := fun fB σ => apart42 (f := f) (fB := fB) (B := bV (apL J)) (σ := σ) hJ1 hl1 (by rw [bV_len]; omega) (fun p hp => by
     obtain ⟨s, -, rfl⟩ := List.mem_map.1 hp
     have := bl_len (s := s) (k := 12)
     simp
     omega)
    rw [apV_ok hap] at q42b
    rw [apartV_ok hck] at q43
    have hlv : locksV J = .tup [.ss (lv (lexS (locksTo J (2 ^ J.length)))) (lexS (locksTo J (2 ^ J.length))).length ((locksTo J (2 ^ J.length)).length == 0), .i .i64 0] := by
     unfold locksV
     rw [if_neg (by simp [hck]), lexS_len]
    rw [hlv] at q37
    rw [List.drop_zero, show setB [] = 0 from rfl, ← hal] at q44
    have hbl := bV_len (R := apL J)
    have hpb := lls_pure (B := bV (apL J))
    generalize (apL J).length = na at *
    generalize bV (apL J) = A at *
    generalize (locksTo J (2 ^ J.length)).length = nl at *
    generalize lexS (locksTo J (2 ^ J.length)) = L at *
    refine ab_seq_k fun K5 h5 => ?_
    simp [w1, w2]
    refine callK_of (q41 _) ?_
    simp [w1, w2]
    refine h5 _ _ _ ?_
    clear h5 K5
    refine ab_seq_k fun K6 h6 => ?_
    simp
    refine callK_of (q42 _) ?_
    simp
    refine h6 _ _ _ ?_
    clear h6 K6
    refine ab_seq_k fun K7 h7 => ?_
    simp
    refine callK_of (q43 _) ?_
    simp
    refine h7 _ _ _ ?_
    clear h7 K7
    refine ab_seq_k fun K8 h8 => ?_
    simp
    refine callK_of (q37 _) ?_
    simp
    refine h8 _ _ _ ?_
    clear h8 K8
    refine ab_seq_k fun K9 h9 => ?_
    refine ab_seq_k fun K10 h10 => ?_
    simp
    refine h10 _ _ _ ?_
    clear h10 K10
    refine ab_cond_of rfl (fun h => by simp at h) (fun _ => ?_)
    simp
    refine h9 _ _ _ ?_
    clear h9 K9
    refine ab_seq_k fun K11 h11 => ?_
    refine ab_seq_k fun K12 h12 => ?_
    simp
    refine h12 _ _ _ ?_
    clear h12 K12
    refine ab_cond_of rfl (fun h => by simp at h) (fun _ => ?_)
    simp
    refine h11 _ _ _ ?_
    clear h11 K11
    refine ab_seq_k fun K13 h13 => ?_
    refine ab_seq_k fun K14 h14 => ?_
    simp
    refine h14 _ _ _ ?_
    clear h14 K14
    by_cases h20 : 20 < L.length
    ·refine ab_cond_of rfl (fun _ => ?_) (fun h => by have := of_decide_eq_false h; omega)
     refine ab_seq_k fun K15 h15 => ?_
     simp
     refine callK_of (wk _) ?_
     simp
     refine h15 _ _ _ ?_
     clear h15 K15
     simp
     exact fin_of 1 (by simp [rs6])
    ·refine ab_cond_of rfl (fun h => by have := of_decide_eq_true h; omega) (fun _ => ?_)
     simp
     refine h13 _ _ _ ?_
     clear h13 K13
     refine ab_seq_k fun K16 h16 => ?_
     simp
     refine callK_of (q42b _ _) ?_
     simp
     refine h16 _ _ _ ?_
     clear h16 K16
     refine ab_seq_k fun K17 h17 => ?_
     simp
     refine callK_of (q44 _ _) ?_
     simp [hbl]
     refine callK_of (wk _) ?_
     simp
     refine h17 _ _ _ ?_
     simp
     exact fin_of 1 (by simp [rs6])
   ·have hlv : locksV J = .tup [.ss [] 0 true, .i .i64 (checkJ J)] := by unfold locksV; rw [if_pos hck]
    have hav : apartV J = .tup [.ss [] 0 true, .i .i64 (checkJ J)] := by unfold apartV; rw [if_pos hck]
    rw [hlv] at q37
    rw [hav] at q43
    refine ab_seq_k fun K5 h5 => ?_
    simp [w1, w2]
    refine callK_of (q41 _) ?_
    simp [w1, w2]
    refine h5 _ _ _ ?_
    clear h5 K5
    refine ab_seq_k fun K6 h6 => ?_
    simp
    refine callK_of (q42 _) ?_
    simp
    refine h6 _ _ _ ?_
    clear h6 K6
    refine ab_seq_k fun K7 h7 => ?_
    simp
    refine callK_of (q43 _) ?_
    simp
    refine h7 _ _ _ ?_
    clear h7 K7
    refine ab_seq_k fun K8 h8 => ?_
    simp
    refine callK_of (q37 _) ?_
    simp
    refine h8 _ _ _ ?_
    clear h8 K8
    refine ab_seq_k fun K9 h9 => ?_
    refine ab_seq_k fun K10 h10 => ?_
    simp
    refine h10 _ _ _ ?_
    clear h10 K10
    refine ab_cond_of rfl (fun h => by simp at h) (fun _ => ?_)
    simp
    refine h9 _ _ _ ?_
    clear h9 K9
    refine ab_seq_k fun K11 h11 => ?_
    refine ab_seq_k fun K12 h12 => ?_
    simp
    refine h12 _ _ _ ?_
    clear h12 K12
    refine ab_cond_of rfl (fun _ => ?_) (fun h => by simp [hck] at h)
    refine ab_seq_k fun K13 h13 => ?_
    simp
    refine callK_of (wk _) ?_
    simp
    refine h13 _ _ _ ?_
    simp
    exact fin_of 1 (by simp [rs6])
 clear h2 h3
 cases hg : grB J with
 | true =>
  simp
  exact hK3 _ true rfl rfl rfl (by simp [hg])
 | false =>
  obtain ⟨hJ, hl⟩ := gr_small hg
  simp
  refine callK_of (wide28 (by omega) (fun x hx => by have := hl x hx; omega)) ?_
  cases hw : wideB J with
  | true =>
   simp
   exact hK3 _ true rfl rfl rfl (by rw [hg, hw]; rfl)
  | false =>
   simp
   refine callK_of far40 ?_
   simp
   exact hK3 _ _ rfl rfl rfl (by rw [hg, hw]; simp)
end Go.Ab
end
