/- The law JamMore. -/
import Derived.Test.YtgndegccjhdmmaaGreatJP
import Derived.Test.YtgndegccjhdmmaaGreatJ12
set_option linter.unusedVariables false
set_option linter.unusedSimpArgs false
set_option maxHeartbeats 4000000
set_option maxRecDepth 100000
namespace Go.Ab
open Go Go.Proofs

def ic10 : IC := (.seq (.reg [.op (some 5) none (.box (.t 0)), .op (some 10) none (.mov (.c (.b false)))] (some [1, 2, 3, 4, 5])) (.seq (.seq (.reg [.op (some 18) none (.loadA 1 (.t 5)), .call (some 19) none 47 [(.t 18)], .op (some 20) none (.not (.t 19))] (some [1, 2, 3, 4, 5, 20])) (.cond (.t 20) (.seq (.reg [.call (some 21) none 18 [], .op (some 10) none (.mov (.t 21))] (some [10])) .ret) .skip)) (.seq (.drw [(.op (some 23) none (.loadA 1 (.t 5)), []), (.op (some 24) none (.loadA 1 (.t 5)), []), (.op (some 25) none (.mov (.t 1)), []), (.call (some 26) none 48 [(.t 24), (.t 25)], []), (.call (some 27) none 19 [(.t 23), (.t 26)], []), (.op (some 22) none (.mov (.t 27)), []), (.op (some 28) none (.ext 0 (.t 22)), []), (.op (some 29) none (.ext 1 (.t 22)), []), (.op (some 11) none (.mov (.t 28)), []), (.op (some 12) none (.mov (.t 29)), [])] (some [1, 2, 3, 4, 5, 11, 12])) (.seq (.drw [(.op (some 31) none (.loadA 1 (.t 5)), []), (.op (some 32) none (.loadA 1 (.t 5)), []), (.op (some 33) none (.mov (.t 1)), []), (.op (some 34) none (.mov (.t 2)), []), (.op (some 35) none (.bin .or (.t 33) (.t 34)), []), (.call (some 36) none 48 [(.t 32), (.t 35)], []), (.call (some 37) none 19 [(.t 31), (.t 36)], []), (.op (some 30) none (.mov (.t 37)), []), (.op (some 38) none (.ext 0 (.t 30)), []), (.op (some 39) none (.ext 1 (.t 30)), []), (.op (some 13) none (.mov (.t 38)), []), (.op (some 14) none (.mov (.t 39)), [])] (some [1, 3, 4, 5, 11, 12, 13, 14])) (.seq (.reg [.op (some 40) none (.mov (.t 3)), .op (some 41) none (.conv .i64 (.t 40)), .op (some 42) none (.fad 0 (.t 5)), .op (some 43) none (.load1 (.t 42)), .op (some 44) none (.len (.t 43)), .op (some 45) none (.bin .rem (.t 41) (.t 44)), .op (some 15) none (.mov (.t 45))] (some [1, 4, 5, 11, 12, 13, 14, 15])) (.seq (.drw [(.op (some 47) none (.loadA 1 (.t 5)), []), (.op (some 48) none (.mov (.t 15)), []), (.op (some 49) none (.mov (.t 4)), []), (.op (some 50) none (.conv .i64 (.t 49)), []), (.op (some 51) none (.fad 0 (.t 5)), []), (.op (some 52) none (.load1 (.t 51)), []), (.op (some 53) none (.len (.t 52)), []), (.op (some 54) none (.bin .rem (.t 50) (.t 53)), []), (.call (some 55) none 51 [(.t 47), (.t 48), (.t 54)], []), (.op (some 56) none (.loadA 1 (.t 5)), []), (.op (some 57) none (.mov (.t 1)), []), (.call (some 58) none 48 [(.t 56), (.t 57)], []), (.call (some 59) none 19 [(.t 55), (.t 58)], []), (.op (some 46) none (.mov (.t 59)), []), (.op (some 60) none (.ext 0 (.t 46)), []), (.op (some 61) none (.ext 1 (.t 46)), []), (.op (some 16) none (.mov (.t 60)), []), (.op (some 17) none (.mov (.t 61)), [])] (some [5, 11, 12, 13, 14, 15, 16, 17])) (.seq (.seq (.reg [.op (some 62) none (.mov (.t 12)), .op (some 63) none (.bin .neq (.t 62) (.c (.i .i64 0))), .op (some 64) none (.mov (.t 63)), .op (some 65) (some (64, false)) (.mov (.t 14)), .op (some 66) (some (64, false)) (.bin .neq (.t 65) (.c (.i .i64 0))), .op (some 67) none (.pick (.t 64) (.c (.b true)) (.t 66)), .op (some 68) none (.mov (.t 67)), .op (some 69) (some (68, false)) (.mov (.t 17)), .op (some 70) (some (68, false)) (.bin .neq (.t 69) (.c (.i .i64 0))), .op (some 71) none (.pick (.t 68) (.c (.b true)) (.t 70)), .op (some 72) none (.mov (.t 71)), .op (some 73) (some (72, false)) (.mov (.t 11)), .op (some 74) (some (72, false)) (.mov (.t 13)), .call (some 75) (some (72, false)) 52 [(.t 73), (.t 74)], .op (some 76) (some (72, false)) (.not (.t 75)), .op (some 77) none (.pick (.t 72) (.c (.b true)) (.t 76))] (some [5, 11, 15, 16, 77])) (.cond (.t 77) (.seq (.reg [.op (some 10) none (.mov (.c (.b false)))] (some [10])) .ret) .skip)) (.seq (.seq (.reg [.op (some 78) none (.fad 0 (.t 5)), .op (some 79) none (.load1 (.t 78)), .op (some 80) none (.mov (.t 15)), .op (some 81) none (.ixs 2 (.t 79) (.t 80)), .op (some 82) none (.fad 0 (.t 81)), .op (some 83) none (.load1 (.t 82)), .op (some 84) none (.bin .eql (.t 83) (.c (.i .i64 0)))] (some [11, 16, 84])) (.cond (.t 84) (.seq (.reg [.op (some 85) none (.mov (.t 16)), .op (some 86) none (.mov (.t 11)), .call (some 87) none 52 [(.t 85), (.t 86)], .op (some 88) none (.mov (.t 87)), .call (some 89) (some (88, true)) 18 [], .op (some 90) none (.pick (.t 88) (.t 89) (.c (.b false))), .op (some 10) none (.mov (.t 90))] (some [10])) .ret) .skip)) (.seq (.reg [.op (some 91) none (.mov (.t 11)), .op (some 92) none (.mov (.t 16)), .call (some 93) none 52 [(.t 91), (.t 92)], .op (some 94) none (.mov (.t 93)), .call (some 95) (some (94, true)) 18 [], .op (some 96) none (.pick (.t 94) (.t 95) (.c (.b false))), .op (some 10) none (.mov (.t 96))] (some [10])) .ret)))))))))
def rs10 : List IRes := [.tmp 10]
theorem fn10 : Fn_ Tryz.prog 10 Tryz.f10 [] ic10 rs10 := ⟨by kernel_rfl, by decide, by kernel_rfl, by kernel_rfl⟩

theorem check_zero {J : List Lg} (h1 : 1 ≤ J.length ∧ J.length ≤ 12) (h2 : ∀ p ∈ J, isL J.length p.2.1 = true ∧ (p.1 = 0 ∨ p.1 = 1)) : checkJ J = 0 := by
  unfold checkJ
  rw [if_neg (by omega)]
  have a1 : (J.any fun l => !fit 0 1 l.1) = false := by
    rw [List.any_eq_false]
    intro p hp
    have := (h2 p hp).2
    simp [fit]
    omega
  have a2 : (J.any fun l => !isL J.length l.2.1) = false := by
    rw [List.any_eq_false]
    intro p hp
    simp [(h2 p hp).1]
  rw [a1, a2]
  rfl
theorem frB_iff {J : List Lg} {n g : Nat} {q : Lg} (hq : J[n]? = some q) (h0 : ∀ x ∈ q.2.1, 0 ≤ x) : frB J (byB J) n g = true ↔ if q.1 = 0 then (∀ j : Nat, (j : Int) ∈ q.2.1 → g.testBit j = true) else ∃ j : Nat, (j : Int) ∈ q.2.1 ∧ g.testBit j = true := by
  have hB : (byB J).getD n 0 = setB q.2.1 := by
    unfold byB
    rw [List.getD_eq_getElem?_getD, List.getElem?_map, hq]; rfl
  have hk : kd J n = q.1 := by
    unfold kd
    rw [List.getD_eq_getElem?_getD, hq]; rfl
  unfold frB
  rw [hB, hk]
  by_cases h : q.1 = 0
  · rw [if_pos h, if_pos h, decide_eq_true_eq, less_zero]
    exact ⟨fun a j hj => a j ((setB_bit h0).2 hj), fun a j hj => a j ((setB_bit h0).1 hj)⟩
  · rw [if_neg h, if_neg h, decide_eq_true_eq, and_ne]
    exact ⟨fun ⟨j, a, b⟩ => ⟨j, (setB_bit h0).1 a, b⟩, fun ⟨j, a, b⟩ => ⟨j, (setB_bit h0).2 a, b⟩⟩
section
variable {J : List Lg} {i by' : Nat} {p : Lg}
theorem held_ok (h1 : 1 ≤ J.length ∧ J.length ≤ 12) (h2 : ∀ p ∈ J, isL J.length p.2.1 = true ∧ (p.1 = 0 ∨ p.1 = 1) ∧ p.2.1.length ≤ 16) (hp : J[i]? = some p) :
    ∀ q ∈ J.set i (heldP J p by'), isL J.length q.2.1 = true ∧ (q.1 = 0 ∨ q.1 = 1) ∧ q.2.1.length ≤ 16 := by
  intro q hq
  rcases List.mem_or_eq_of_mem_set hq with hq | rfl
  · exact h2 q hq
  · refine ⟨?_, (h2 p (List.mem_of_getElem? hp)).2.1, ?_⟩
    · show isL _ (hL _ _) = true
      unfold isL
      rw [isLF_iff]
      refine ⟨hL_sorted, fun x hx => ?_⟩
      obtain ⟨j, a, b, -⟩ := hL_mem.1 hx
      omega
    · show (hL _ _).length ≤ 16
      have := hL_len (q := qh p by') (k := J.length)
      omega
theorem held_get (hp : J[i]? = some p) {n : Nat} (hn : n < J.length) : ∃ q, J[n]? = some q ∧ (J.set i (heldP J p by'))[n]? = some (if n = i then heldP J p by' else q) ∧ (n = i → q = p) := by
  refine ⟨J[n], List.getElem?_eq_getElem hn, ?_, ?_⟩
  · rw [List.getElem?_set]
    by_cases h : i = n
    · rw [if_pos h, if_pos (by omega), if_pos h.symm]
    · rw [if_neg h, if_neg (fun e => h e.symm), List.getElem?_eq_getElem hn]
  · rintro rfl
    rw [List.getElem?_eq_getElem hn] at hp
    exact Option.some.inj hp
theorem held_in (hm : ∀ x ∈ p.2.1, 0 ≤ x ∧ x < (J.length : Int)) {x : Int} (hx : x ∈ p.2.1) : x ∈ (heldP J p by').2.1 := by
  have := hm x hx
  refine hL_mem.2 ⟨x.toNat, by omega, by omega, ?_⟩
  have e : ((x.toNat : Nat) : Int) = x := by omega
  simp [qh, e, hx]
theorem held_fr (h2 : ∀ p ∈ J, isL J.length p.2.1 = true ∧ (p.1 = 0 ∨ p.1 = 1) ∧ p.2.1.length ≤ 16) (h1 : 1 ≤ J.length ∧ J.length ≤ 12) (hp : J[i]? = some p) {n : Nat} (hn : n < J.length) {g g' : Nat} (hg : ∀ j, g.testBit j = true → g'.testBit j = true) :
    (p.1 = 0 → frB (J.set i (heldP J p by')) (byB (J.set i (heldP J p by'))) n g = true → frB J (byB J) n g' = true) ∧ (p.1 ≠ 0 → frB J (byB J) n g = true → frB (J.set i (heldP J p by')) (byB (J.set i (heldP J p by'))) n g' = true) := by
  obtain ⟨q, hq, hq', he⟩ := held_get (by' := by') hp hn
  have hm := isLF_mem (h2 p (List.mem_of_getElem? hp)).1
  have hmq := isLF_mem (h2 q (List.mem_of_getElem? hq)).1
  have hmh := isLF_mem (held_ok (by' := by') h1 h2 hp _ (List.mem_of_getElem? hq')).1
  have f1 := fun g => frB_iff (g := g) hq (fun x hx => (hmq x hx).1)
  have f2 := fun g => frB_iff (g := g) hq' (fun x hx => (hmh x hx).1)
  rw [f1, f2, f1, f2]
  clear f1 f2 hmh
  by_cases hni : n = i
  · have hqp := he hni
    subst hqp
    rw [if_pos hni]
    have hk : (heldP J q by').1 = q.1 := rfl
    rw [hk]
    constructor
    · intro h0 h
      rw [if_pos h0] at h ⊢
      exact fun j hj => hg j (h j (held_in hm hj))
    · intro h0 h
      rw [if_neg h0] at h ⊢
      obtain ⟨j, a, b⟩ := h
      exact ⟨j, held_in hm a, hg j b⟩
  · rw [if_neg hni]
    have : (if q.1 = 0 then (∀ j : Nat, (j : Int) ∈ q.2.1 → g.testBit j = true) else ∃ j : Nat, (j : Int) ∈ q.2.1 ∧ g.testBit j = true) → (if q.1 = 0 then (∀ j : Nat, (j : Int) ∈ q.2.1 → g'.testBit j = true) else ∃ j : Nat, (j : Int) ∈ q.2.1 ∧ g'.testBit j = true) := by
      intro h
      by_cases h0 : q.1 = 0
      · rw [if_pos h0] at h ⊢
        exact fun j hj => hg j (h j hj)
      · rw [if_neg h0] at h ⊢
        obtain ⟨j, a, b⟩ := h
        exact ⟨j, a, hg j b⟩
    exact ⟨fun _ => this, fun _ => this⟩
end
theorem keys_up {J : List Lg} {a b : Nat} : ∀ j, (keysS J a).testBit j = true → (keysS J (a ||| b)).testBit j = true := by
  intro j
  unfold keysS
  rw [Nat.testBit_mod_two_pow, Nat.testBit_mod_two_pow, Nat.testBit_or]
  cases a.testBit j <;> simp

theorem jamMore {J : List Lg} {f : Bool} {a b c d : Nat} {σ : List O} (ha : a < 65536) (hb : b < 65536) (hc : c < 256) (hd : d < 256) : FSpec Tryz.prog 10 [jamV J f, .i .u16 a, .i .u16 b, .i .u8 c, .i .u8 d] σ (.b true) σ := by
  refine FSpec.frame (σ := σ) ?_ (by simp) rfl
  refine fn10.spec0 mixed noIt_ok ?_
  rw [ic10]
  refine ab_seq_k fun K1 h1 => ?_
  simp
  refine h1 _ _ _ ?_
  clear h1 K1
  refine ab_seq_k fun K2 h2 => ?_
  refine ab_seq_k fun K3 h3 => ?_
  simp
  refine callK_of fine47 ?_
  simp
  refine h3 _ _ _ ?_
  clear h3 K3
  cases hf : fineB J with
  | false =>
    refine ab_cond_of rfl (fun _ => ?_) (fun h => by cases h)
    refine ab_seq_k fun K4 h4 => ?_
    simp
    refine callK_of (wk _) ?_
    simp
    refine h4 _ _ _ ?_
    clear h4 K4
    simp
    exact fin_of 1 (by simp [rs10])
  | true =>
    refine ab_cond_of rfl (fun h => by cases h) (fun _ => ?_)
    obtain ⟨hJ, hck, hp⟩ := fine_ok hf
    have hN1 := hJ.1
    have hN := hJ.2.1
    have hor : a ||| b < 65536 := Nat.or_lt_two_pow (n := 16) ha hb
    have eor := or_nat (a := a) (b := b) ha hb
    have w19 := fun (J : List Lg) (f : Bool) (hJ : JOK J) (hc : checkJ J = 0) (hp : ∀ p ∈ J, p.2.1.length ≤ 16) s fk σ (hs : s < 2 ^ J.length) => by
      have hbl := bl_len (s := s) (k := 16)
      have h := waves19 (J := J) (f := f) (fk := fk) (k := bl s 16) (σ := σ) (by have := hJ.2.1; omega) (fun x hx => by have := hp x hx; omega) (by omega)
      rw [wav_bits hJ hc hs] at h
      exact h
    have hpl : ∀ p ∈ J, p.2.1.length ≤ 16 := fun p h => (hp p h).2.2
    have k1 := fun σ => keys48 (f := f) (b := a) (σ := σ) hJ ha
    have k2 := fun σ => keys48 (f := f) (b := a ||| b) (σ := σ) hJ hor
    have s1 := keysS_lt (J := J) (b := a)
    have s2 := keysS_lt (J := J) (b := a ||| b)
    have hil : c % J.length < J.length := Nat.mod_lt _ (by omega)
    have hbl' : d % J.length < J.length := Nat.mod_lt _ (by omega)
    obtain ⟨p, hpi, hpm, hle, g1, -⟩ := lg_at hil
    obtain ⟨hg1, g1'⟩ := List.getElem?_eq_some_iff.1 g1
    have hheld := fun σ => held51 (f := f) (by' := d % J.length) (σ := σ) (by omega) hpi (by have := hpl p hpm; omega)
    have hok' := held_ok (by' := d % J.length) ⟨hN1, hN⟩ hp hpi
    have hlen' : (J.set (c % J.length) (heldP J p (d % J.length))).length = J.length := by simp
    have hck' : checkJ (J.set (c % J.length) (heldP J p (d % J.length))) = 0 := check_zero (by rw [hlen']; exact ⟨hN1, hN⟩) (fun q hq => by rw [hlen']; exact ⟨(hok' q hq).1, (hok' q hq).2.1⟩)
    have hJ' : JOK (J.set (c % J.length) (heldP J p (d % J.length))) := check_ok (fun q hq => by have := (hok' q hq).2.2; omega) hck'
    have s3 : keysS J a < 2 ^ (J.set (c % J.length) (heldP J p (d % J.length))).length := by rw [hlen']; exact s1
    have l1 : laterB (wavL J (keysS J a)) (wavL J (keysS J (a ||| b))) = true := later_of rfl (gk_le rfl (fun n hn g g' hg h => frB_mono hg h) keys_up)
    have l2 : p.1 = 0 → laterB (wavL (J.set (c % J.length) (heldP J p (d % J.length))) (keysS J a)) (wavL J (keysS J a)) = true := fun h0 => later_of hlen' (gk_le hlen' (fun n hn g g' hg h => (held_fr hp ⟨hN1, hN⟩ hpi (by omega) hg).1 h0 h) (fun j h => h))
    have l3 : p.1 ≠ 0 → laterB (wavL J (keysS J a)) (wavL (J.set (c % J.length) (heldP J p (d % J.length))) (keysS J a)) = true := fun h0 => later_of hlen'.symm (gk_le hlen'.symm (fun n hn g g' hg h => (held_fr hp ⟨hN1, hN⟩ hpi hn hg).2 h0 h) (fun j h => h))
    have v1 := fun fk σ => w19 J f hJ hck hpl (keysS J a) fk σ s1
    have v2 := fun fk σ => w19 J f hJ hck hpl (keysS J (a ||| b)) fk σ s2
    have v3 := fun fk σ => w19 _ false hJ' hck' (fun q hq => (hok' q hq).2.2) (keysS J a) fk σ s3
    have len1 : (wavL J (keysS J a)).length = J.length := rowF_len
    have len3 : (wavL (J.set (c % J.length) (heldP J p (d % J.length))) (keysS J a)).length = J.length := by unfold wavL; rw [rowF_len]; exact hlen'
    clear w19 s1 s2 s3 hJ' hck' hok'
    generalize J.set (c % J.length) (heldP J p (d % J.length)) = J' at *
    generalize wavL J (keysS J a) = A at *
    generalize wavL J (keysS J (a ||| b)) = B at *
    generalize wavL J' (keysS J a) = C at *
    have ec : (c : Int).tmod (J.length : Int) = ((c % J.length : Nat) : Int) := rfl
    have ed : (d : Int).tmod (J.length : Int) = ((d % J.length : Nat) : Int) := rfl
    generalize c % J.length = i at *
    generalize d % J.length = e at *
    generalize bl (keysS J a) 16 = ka at *
    generalize bl (keysS J (a ||| b)) 16 = kb at *
    generalize (ka.length == 0) = fa at *
    generalize (kb.length == 0) = fb at *
    have hN0 : ¬ J.length = 0 := by omega
    have hne : J ≠ [] := by rintro rfl; simp at hN1
    simp
    refine h2 _ _ _ ?_
    clear h2 K2
    refine ab_seq_k fun K5 h5 => ?_
    simp [abDs_consU, drU, recheck_cons, recheck_nil, rcK, IS.dst]
    refine callK_of (k1 _) ?_
    simp [abDs_consU, drU, recheck_cons, recheck_nil, rcK, IS.dst]
    refine callK_of (v1 _ _) ?_
    simp [abDs_consU, drU, recheck_cons, recheck_nil, rcK, IS.dst]
    refine h5 _ _ _ ?_
    clear h5 K5
    refine ab_seq_k fun K6 h6 => ?_
    simp [abDs_consU, drU, recheck_cons, recheck_nil, rcK, IS.dst, eor]
    refine callK_of (k2 _) ?_
    simp [abDs_consU, drU, recheck_cons, recheck_nil, rcK, IS.dst]
    refine callK_of (v2 _ _) ?_
    simp [abDs_consU, drU, recheck_cons, recheck_nil, rcK, IS.dst]
    refine h6 _ _ _ ?_
    clear h6 K6
    refine ab_seq_k fun K7 h7 => ?_
    simp [wrap64 (x := (c : Int)) (by omega) (by omega), ec, hN0, hne]
    refine h7 _ _ _ ?_
    clear h7 K7
    refine ab_seq_k fun K8 h8 => ?_
    simp [abDs_consU, drU, recheck_cons, recheck_nil, rcK, IS.dst, wrap64 (x := (d : Int)) (by omega) (by omega), ed, hN0, hne]
    refine callK_of (hheld _) ?_
    simp [abDs_consU, drU, recheck_cons, recheck_nil, rcK, IS.dst]
    refine callK_of (k1 _) ?_
    simp [abDs_consU, drU, recheck_cons, recheck_nil, rcK, IS.dst]
    refine callK_of (v3 _ _) ?_
    simp [abDs_consU, drU, recheck_cons, recheck_nil, rcK, IS.dst]
    refine h8 _ _ _ ?_
    clear h8 K8
    refine ab_seq_k fun K9 h9 => ?_
    refine ab_seq_k fun K10 h10 => ?_
    simp
    refine callK_of (later52 (by omega)) ?_
    rw [l1]
    simp
    refine h10 _ _ _ ?_
    clear h10 K10
    refine ab_cond_of rfl (fun h => by cases h) (fun _ => ?_)
    simp
    refine h9 _ _ _ ?_
    clear h9 K9
    refine ab_seq_k fun K11 h11 => ?_
    refine ab_seq_k fun K12 h12 => ?_
    simp [hil, hle, g1, g1']
    refine h12 _ _ _ ?_
    clear h12 K12
    by_cases h0 : p.1 = 0
    · refine ab_cond_of rfl (fun _ => ?_) (fun h => by simp [h0] at h)
      refine ab_seq_k fun K13 h13 => ?_
      simp
      refine callK_of (later52 (by omega)) ?_
      rw [l2 h0]
      simp
      refine callK_of (wk _) ?_
      simp
      refine h13 _ _ _ ?_
      simp
      exact fin_of 1 (by simp [rs10])
    · refine ab_cond_of rfl (fun h => by simp [h0] at h) (fun _ => ?_)
      simp
      refine h11 _ _ _ ?_
      refine ab_seq_k fun K13 h13 => ?_
      simp
      refine callK_of (later52 (by omega)) ?_
      rw [l3 h0]
      simp
      refine callK_of (wk _) ?_
      simp
      refine h13 _ _ _ ?_
      simp
      exact fin_of 1 (by simp [rs10])
end Go.Ab
