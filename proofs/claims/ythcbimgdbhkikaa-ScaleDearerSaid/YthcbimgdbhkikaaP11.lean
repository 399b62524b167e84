/- The law ScaleDearer; its control form is made by program. -/
import Derived.Test.YthcbimgdbhkikaaP0
set_option linter.unusedVariables false
set_option linter.unusedSimpArgs false
set_option maxHeartbeats 4000000
set_option maxRecDepth 100000
namespace Go.Ab
open Go Go.Proofs

def ic11 : IC := (.seq (.reg [.op (some 7) none (.box (.t 0)), .op (some 8) none (.box (.t 1)), .op (some 9) none (.box (.t 2)), .op (some 10) none (.box (.t 3)), .op (some 14) none (.mov (.c (.b false)))] (some [4, 5, 6, 7, 8, 9, 10])) (.seq (.seq (.reg [.op (some 23) none (.loadA 2 (.t 7)), .op (some 24) none (.loadA 7 (.t 8)), .call (some 25) none 40 [(.t 23), (.t 24)], .op (some 26) none (.not (.t 25))] (some [4, 5, 6, 7, 8, 9, 10, 26])) (.cond (.t 26) (.seq (.reg [.call (some 27) none 17 [], .op (some 14) none (.mov (.t 27))] (some [14])) .ret) .skip)) (.seq (.alt [[(.op (some 28) none (.loadA 7 (.t 8)), [2, 3]), (.op (some 29) none (.loadA 7 (.t 8)), [2, 3, 4]), (.op (some 15) none (.alloc (List.replicate 7 (.i .i64 0))), []), (.op (some 16) none (.alloc (List.replicate 7 (.i .i64 0))), []), (.op none none (.storeA 7 (.t 15) (.t 28)), []), (.op none none (.storeA 7 (.t 16) (.t 29)), [])], [(.op (some 28) none (.loadA 7 (.t 8)), [2, 3]), (.op (some 29) none (.loadA 7 (.t 8)), [2, 3, 4]), (.op (some 16) none (.alloc (List.replicate 7 (.i .i64 0))), []), (.op (some 15) none (.alloc (List.replicate 7 (.i .i64 0))), []), (.op none none (.storeA 7 (.t 15) (.t 28)), []), (.op none none (.storeA 7 (.t 16) (.t 29)), [])]] (some [4, 5, 6, 7, 8, 9, 10, 15, 16])) (.seq (.reg [.op (some 30) none (.fad 0 (.t 8)), .op (some 31) none (.load1 (.t 30)), .op (some 32) none (.ixa 2 1 (.t 9) (.c (.i .i64 0))), .op (some 33) none (.load1 (.t 32)), .op (some 34) none (.conv .i64 (.t 33)), .op (some 35) none (.bin .rem (.t 34) (.c (.i .i64 9))), .op (some 36) none (.bin .sub (.t 31) (.t 35)), .op (some 37) none (.mx [(.c (.i .i64 1)), (.t 36)]), .op (some 38) none (.fad 0 (.t 15)), .op none none (.store1 (.t 38) (.t 37))] (some [4, 5, 6, 7, 8, 10, 15, 16])) (.seq (.reg [.op (some 39) none (.fad 1 (.t 8)), .op (some 40) none (.load1 (.t 39)), .op (some 41) none (.ixa 2 1 (.t 10) (.c (.i .i64 0))), .op (some 42) none (.load1 (.t 41)), .op (some 43) none (.conv .i64 (.t 42)), .op (some 44) none (.bin .rem (.t 43) (.c (.i .i64 9))), .op (some 45) none (.bin .add (.t 40) (.t 44)), .op (some 46) none (.mn [(.c (.i .i64 60)), (.t 45)]), .op (some 47) none (.fad 1 (.t 15)), .op none none (.store1 (.t 47) (.t 46))] (some [4, 5, 6, 7, 8, 15, 16])) (.seq (.reg [.op (some 48) none (.fad 4 (.t 8)), .op (some 49) none (.load1 (.t 48)), .op (some 50) none (.mov (.t 4)), .op (some 51) none (.conv .i64 (.t 50)), .op (some 52) none (.bin .rem (.t 51) (.c (.i .i64 5))), .op (some 53) none (.bin .add (.t 49) (.t 52)), .op (some 54) none (.mn [(.c (.i .i64 20)), (.t 53)]), .op (some 55) none (.fad 4 (.t 16)), .op none none (.store1 (.t 55) (.t 54))] (some [5, 6, 7, 8, 15, 16])) (.seq (.reg [.op (some 56) none (.fad 5 (.t 8)), .op (some 57) none (.load1 (.t 56)), .op (some 58) none (.mov (.t 5)), .op (some 59) none (.conv .i64 (.t 58)), .op (some 60) none (.bin .rem (.t 59) (.c (.i .i64 50))), .op (some 61) none (.bin .add (.t 57) (.t 60)), .op (some 62) none (.mn [(.c (.i .i64 100)), (.t 61)]), .op (some 63) none (.fad 5 (.t 16)), .op none none (.store1 (.t 63) (.t 62))] (some [6, 7, 8, 15, 16])) (.seq (.reg [.op (some 64) none (.fad 6 (.t 8)), .op (some 65) none (.load1 (.t 64)), .op (some 66) none (.mov (.t 6)), .op (some 67) none (.conv .i64 (.t 66)), .op (some 68) none (.bin .rem (.t 67) (.c (.i .i64 9))), .op (some 69) none (.bin .add (.t 65) (.t 68)), .op (some 70) none (.mn [(.c (.i .i64 60)), (.t 69)]), .op (some 71) none (.fad 6 (.t 16)), .op none none (.store1 (.t 71) (.t 70))] (some [7, 8, 15, 16])) (.seq (.reg [.op (some 73) none (.loadA 2 (.t 7)), .op (some 74) none (.loadA 7 (.t 8)), .call (some 75) none 26 [(.t 73), (.t 74)], .op (some 72) none (.mov (.t 75)), .op (some 76) none (.ext 0 (.t 72)), .op (some 77) none (.ext 1 (.t 72)), .op (some 17) none (.mov (.t 76)), .op (some 18) none (.mov (.t 77))] (some [7, 15, 16, 17, 18])) (.seq (.reg [.op (some 79) none (.loadA 2 (.t 7)), .op (some 80) none (.loadA 7 (.t 15)), .call (some 81) none 26 [(.t 79), (.t 80)], .op (some 78) none (.mov (.t 81)), .op (some 82) none (.ext 0 (.t 78)), .op (some 83) none (.ext 1 (.t 78)), .op (some 19) none (.mov (.t 82)), .op (some 20) none (.mov (.t 83))] (some [7, 16, 17, 18, 19, 20])) (.seq (.reg [.op (some 85) none (.loadA 2 (.t 7)), .op (some 86) none (.loadA 7 (.t 16)), .call (some 87) none 26 [(.t 85), (.t 86)], .op (some 84) none (.mov (.t 87)), .op (some 88) none (.ext 0 (.t 84)), .op (some 89) none (.ext 1 (.t 84)), .op (some 21) none (.mov (.t 88)), .op (some 22) none (.mov (.t 89))] (some [17, 18, 19, 20, 21, 22])) (.seq (.reg [.op (some 90) none (.mov (.t 18)), .op (some 91) none (.bin .eql (.t 90) (.c (.i .i64 0))), .op (some 92) none (.mov (.t 91)), .op (some 93) (some (92, true)) (.mov (.t 20)), .op (some 94) (some (92, true)) (.bin .eql (.t 93) (.c (.i .i64 0))), .op (some 95) none (.pick (.t 92) (.t 94) (.c (.b false))), .op (some 96) none (.mov (.t 95)), .op (some 97) (some (96, true)) (.mov (.t 22)), .op (some 98) (some (96, true)) (.bin .eql (.t 97) (.c (.i .i64 0))), .op (some 99) none (.pick (.t 96) (.t 98) (.c (.b false))), .op (some 100) none (.mov (.t 99)), .op (some 101) (some (100, true)) (.mov (.t 19)), .op (some 102) (some (100, true)) (.mov (.t 17)), .op (some 103) (some (100, true)) (.bin .geq (.t 101) (.t 102)), .op (some 104) none (.pick (.t 100) (.t 103) (.c (.b false))), .op (some 105) none (.mov (.t 104)), .op (some 106) (some (105, true)) (.mov (.t 21)), .op (some 107) (some (105, true)) (.mov (.t 17)), .op (some 108) (some (105, true)) (.bin .leq (.t 106) (.t 107)), .op (some 109) none (.pick (.t 105) (.t 108) (.c (.b false))), .op (some 110) none (.mov (.t 109)), .call (some 111) (some (110, true)) 17 [], .op (some 112) none (.pick (.t 110) (.t 111) (.c (.b false))), .op (some 14) none (.mov (.t 112))] (some [14])) .ret))))))))))))
def rs11 : List IRes := [.tmp 14]
theorem fn11 : Fn_ Try.prog 11 Try.f11 [] ic11 rs11 := ⟨by kernel_rfl, by decide, by kernel_rfl, by kernel_rfl⟩

theorem scaleN_pos {t b : List Int} {r : Ru} {i j : Nat} (h : 0 < scN t b r i j) : hasBad b i j = false ∧ ¬ ((j : Int) - i - r.trim < r.least ∨ r.most < (j : Int) - i - r.trim ∨ ((j : Int) - i - r.trim).tmod r.step ≠ 0 ∨ t.getD (j : Int).toNat 0 < r.thin) ∧ scN t b r i j = scaleN t r j ((j : Int) - i - r.trim) := by
  unfold scN scaleP at h ⊢
  by_cases hb : hasBad b i j = true
  · rw [if_pos hb] at h; omega
  · rw [if_neg hb] at h ⊢
    by_cases hc : (j : Int) - i - r.trim < r.least ∨ r.most < (j : Int) - i - r.trim ∨ ((j : Int) - i - r.trim).tmod r.step ≠ 0 ∨ t.getD (j : Int).toNat 0 < r.thin
    · rw [if_pos hc] at h; omega
    · rw [if_neg hc]
      exact ⟨by simpa using hb, hc, rfl⟩
theorem scaleN_is {t b : List Int} {r : Ru} {i j : Nat} (hb : hasBad b i j = false) (hc : ¬ ((j : Int) - i - r.trim < r.least ∨ r.most < (j : Int) - i - r.trim ∨ ((j : Int) - i - r.trim).tmod r.step ≠ 0 ∨ t.getD (j : Int).toNat 0 < r.thin)) : scN t b r i j = scaleN t r j ((j : Int) - i - r.trim) := by
  unfold scN scaleP
  rw [if_neg (by rw [hb]; simp), if_neg hc]
/-- A rule with a lesser Least and a greater Most. -/
def Ru.wide (r : Ru) (a m : Int) : Ru := { r with least := max 1 (r.least - a), most := min 60 (r.most + m) }
/-- A rule with a greater Off, Div and Thin. -/
def Ru.dear (r : Ru) (o d h : Int) : Ru := { r with off := min 20 (r.off + o), div := min 100 (r.div + d), thin := min 60 (r.thin + h) }
theorem Ru.ok_of {r : Ru} (h : RuB r) : r.ok = true := by
  obtain ⟨h1, h2, h3, h4, h5, h6, h7, h8, h9, h10, h11, h12, h13⟩ := h
  simp only [Ru.ok, fit, Bool.and_eq_true, decide_eq_true_eq]
  omega
theorem Ru.wide_b {r : Ru} {a m : Int} (h : RuB r) (ha : 0 ≤ a) (hm : 0 ≤ m) : RuB (r.wide a m) := by
  obtain ⟨h1, h2, h3, h4, h5, h6, h7, h8, h9, h10, h11, h12, h13⟩ := h
  constructor <;> simp only [Ru.wide] <;> omega
theorem Ru.dear_b {r : Ru} {o d k : Int} (h : RuB r) (ho : 0 ≤ o) (hd : 0 ≤ d) (hk : 0 ≤ k) : RuB (r.dear o d k) := by
  obtain ⟨h1, h2, h3, h4, h5, h6, h7, h8, h9, h10, h11, h12, h13⟩ := h
  constructor <;> simp only [Ru.dear] <;> omega
theorem wide_le {t b : List Int} {r : Ru} {a m : Int} (h : RuB r) (ha : 0 ≤ a) (hm : 0 ≤ m) : restN t b r allL 0 ≤ restN t b (r.wide a m) allL 0 := by
  refine rest_best.le rest_best (fun i j hij hj hp => ?_) rfl (Nat.zero_le _)
  obtain ⟨h1, h2, h3⟩ := scaleN_pos hp
  have hl := h.l1
  have hmo := h.m
  have e : scN t b (r.wide a m) i j = scaleN t (r.wide a m) j ((j : Int) - i - r.trim) := by
    refine scaleN_is h1 ?_
    show ¬ ((j : Int) - i - r.trim < max 1 (r.least - a) ∨ min 60 (r.most + m) < (j : Int) - i - r.trim ∨ ((j : Int) - i - r.trim).tmod r.step ≠ 0 ∨ t.getD (j : Int).toNat 0 < r.thin)
    omega
  have e2 : scaleN t (r.wide a m) j ((j : Int) - i - r.trim) = scaleN t r j ((j : Int) - i - r.trim) := rfl
  rw [e, e2, ← h3]
  exact ⟨hp, Int.le_refl _⟩
theorem ediv_le {A A' d d' : Int} (h0 : 0 ≤ A') (h1 : A' ≤ A) (h2 : 0 < d) (h3 : d ≤ d') : A' / d' ≤ A / d := by
  have h4 : A' / d' * d' ≤ A' := Int.ediv_mul_le _ (by omega)
  have h5 : 0 ≤ A' / d' := Int.ediv_nonneg h0 (by omega)
  have h6 : A' / d' * d ≤ A' / d' * d' := Int.mul_le_mul_of_nonneg_left h3 h5
  exact (Int.le_ediv_iff_mul_le h2).2 (by omega)
theorem dear_le {t b : List Int} {r : Ru} {o d k : Int} (h : RuB r) (ho : 0 ≤ o) (hd : 0 ≤ d) (hk : 0 ≤ k) : restN t b (r.dear o d k) allL 0 ≤ restN t b r allL 0 := by
  refine rest_best.le rest_best (fun i j hij hj hp => ?_) rfl (Nat.zero_le _)
  obtain ⟨h1, h2, h3⟩ := scaleN_pos hp
  obtain ⟨g1, g2, g3, g4, g5, g6, g7, g8, g9, g10, g11, g12, g13⟩ := h
  have h2' : ¬ ((j : Int) - i - r.trim < r.least ∨ r.most < (j : Int) - i - r.trim ∨ ((j : Int) - i - r.trim).tmod r.step ≠ 0 ∨ t.getD (j : Int).toNat 0 < min 60 (r.thin + k)) := h2
  have e : scN t b r i j = scaleN t r j ((j : Int) - i - r.trim) := scaleN_is h1 (by omega)
  have h3' : scN t b (r.dear o d k) i j = scaleN t (r.dear o d k) j ((j : Int) - i - r.trim) := h3
  have hle : scaleN t (r.dear o d k) j ((j : Int) - i - r.trim) ≤ scaleN t r j ((j : Int) - i - r.trim) := by
    unfold scaleN
    have hn : 0 ≤ (j : Int) - i - r.trim := by omega
    have u0 : 0 ≤ max 0 (t.getD (j : Int).toNat 0 - (r.dear o d k).off) := by omega
    have u1 : max 0 (t.getD (j : Int).toNat 0 - (r.dear o d k).off) ≤ max 0 (t.getD (j : Int).toNat 0 - r.off) := by
      simp only [Ru.dear]; omega
    have u2 : 0 < r.div := by omega
    have u3 : r.div ≤ (r.dear o d k).div := by simp only [Ru.dear]; omega
    generalize max 0 (t.getD (j : Int).toNat 0 - (r.dear o d k).off) = u at *
    generalize max 0 (t.getD (j : Int).toNat 0 - r.off) = w at *
    generalize (j : Int) - i - r.trim = n at *
    have v1 : u * u ≤ w * w := Int.mul_le_mul u1 u1 u0 (by omega)
    have v2 : 0 ≤ u * u := Int.mul_nonneg u0 u0
    exact ediv_le (Int.mul_nonneg v2 hn) (Int.mul_le_mul_of_nonneg_right v1 hn) u2 u3
  rw [e]
  rw [h3'] at hp ⊢
  exact ⟨by omega, hle⟩
theorem scaleDearer {t b : List Int} {ft fb : Bool} {r : Ru} {l0 l1 m0 m1 o d k : Int} (ht : (t.length : Int) < 9223372036854775808) (hb : (b.length : Int) < 9223372036854775808) (hbb : ∀ x ∈ b, -9223372036854775808 ≤ x ∧ x < 9223372036854775808)
    (hl : 0 ≤ l0 ∧ l0 < 256) (hm : 0 ≤ m0 ∧ m0 < 256) (ho : 0 ≤ o ∧ o < 256) (hd : 0 ≤ d ∧ d < 256) (hk : 0 ≤ k ∧ k < 256) :
    FSpec Try.prog 11 [.agg [sl t ft, sl b fb], .agg r.cells, .agg [.i .u8 l0, .i .u8 l1], .agg [.i .u8 m0, .i .u8 m1], .i .u8 o, .i .u8 d, .i .u8 k] [] (.b true) [] := by
  refine fn11.spec0 mixed noIt_ok ?_
  rw [ic11]
  have h7 : List.take 7 r.cells = r.cells := rfl
  have l7 : r.cells.length = 7 := rfl
  refine ab_seq_k fun K1 h1 => ?_
  simp
  refine h1 _ _ _ ?_
  clear h1 K1
  refine ab_seq_k fun K2 h2 => ?_
  refine ab_seq_k fun K3 h3 => ?_
  simp [h7, l7]
  refine callK_of (FSpec.frame (fine_ok (t := t) (b := b) (ft := ft) (fb := fb) (r := r) ht hb hbb) (by simp) rfl) ?_
  by_cases hf : fineP t b r = true
  case neg =>
    simp [hf]
    refine h3 _ _ _ ?_
    refine ab_cond_of rfl (fun _ => ?_) (fun h => by simp at h)
    refine ab_seq_k fun K4 h4 => ?_
    simp
    refine callK_of (wk _) ?_
    simp
    refine h4 _ _ _ ?_
    simp
    exact fin_of 1 (by simp [rs11])
  simp [hf]
  refine h3 _ _ _ ?_
  clear h3
  refine ab_cond_of rfl (fun h => by simp at h) (fun _ => ?_)
  simp
  refine h2 _ _ _ ?_
  clear h2 K2 K3
  obtain ⟨n, F⟩ := fine_of ft fb hf hbb
  have hR := F.ok.r
  have tl : l0.tmod 9 = l0 % 9 := Int.tmod_eq_emod_of_nonneg hl.1
  have tm : m0.tmod 9 = m0 % 9 := Int.tmod_eq_emod_of_nonneg hm.1
  have to_ : o.tmod 5 = o % 5 := Int.tmod_eq_emod_of_nonneg ho.1
  have td : d.tmod 50 = d % 50 := Int.tmod_eq_emod_of_nonneg hd.1
  have tk : k.tmod 9 = k % 9 := Int.tmod_eq_emod_of_nonneg hk.1
  have hfx : ∀ r' : Ru, RuB r' → fineP t b r' = true := fun r' h' => by
    unfold fineP at hf ⊢
    rw [Bool.and_eq_true] at hf ⊢
    refine ⟨hf.1, ?_⟩
    have := of_decide_eq_true hf.2
    obtain ⟨s1, -⟩ := openE_stem this
    refine decide_eq_true ?_
    unfold openE
    rw [if_pos s1]
    simp [Ru.ok_of h']
  obtain ⟨nx, FX⟩ := fine_of ft fb (hfx (r.wide (l0 % 9) (m0 % 9)) (Ru.wide_b hR (by omega) (by omega))) hbb
  obtain ⟨ny, FY⟩ := fine_of ft fb (hfx (r.dear (o % 5) (d % 50) (k % 9)) (Ru.dear_b hR (by omega) (by omega) (by omega))) hbb
  have c1 : n ≤ nx := by rw [F.en, FX.en]; exact wide_le hR (by omega) (by omega)
  have c2 : ny ≤ n := by rw [F.en, FY.en]; exact dear_le hR (by omega) (by omega) (by omega)
  have B1 := F.best
  have B2 := FX.best
  have B3 := FY.best
  have r0 : r.cells[0]? = some (.i .i64 r.least) := rfl
  obtain ⟨r0l, r0'⟩ := List.getElem?_eq_some_iff.1 r0
  have r1 : r.cells[1]? = some (.i .i64 r.most) := rfl
  obtain ⟨r1l, r1'⟩ := List.getElem?_eq_some_iff.1 r1
  have r4 : r.cells[4]? = some (.i .i64 r.off) := rfl
  obtain ⟨r4l, r4'⟩ := List.getElem?_eq_some_iff.1 r4
  have r5 : r.cells[5]? = some (.i .i64 r.div) := rfl
  obtain ⟨r5l, r5'⟩ := List.getElem?_eq_some_iff.1 r5
  have r6 : r.cells[6]? = some (.i .i64 r.thin) := rfl
  obtain ⟨r6l, r6'⟩ := List.getElem?_eq_some_iff.1 r6
  obtain ⟨g1, g2, g3, g4, g5, g6, g7, g8, g9, g10, g11, g12, g13⟩ := hR
  refine ab_seq_k fun K5 h5 => ?_
  have hK : ∀ ix iy, ix ≠ iy → 4 ≤ ix → 4 ≤ iy → ix ≤ 5 → iy ≤ 5 → ∀ env σ, get env 4 = .i .u8 o → get env 5 = .i .u8 d → get env 6 = .i .u8 k → get env 7 = .p 0 0 0 → get env 8 = .p 1 0 0 → get env 9 = .p 2 0 0 → get env 10 = .p 3 0 0 → get env 15 = .p ix 0 0 → get env 16 = .p iy 0 0 →
      σ = [O.row 0 [sl t ft, sl b fb], O.row 0 r.cells, O.row 0 [.i .u8 l0, .i .u8 l1], O.row 0 [.i .u8 m0, .i .u8 m1], O.row 0 r.cells, O.row 0 r.cells] → K5 (some 0) env σ := by
    intro ix iy hne hx1 hy1 hx2 hy2 env σ w4 w5 w6 w7 w8 w9 w10 w15 w16 hσ
    refine h5 _ _ _ ?_
    clear h5 K5
    have b0 : σ[0]? = some (O.row 0 [sl t ft, sl b fb]) := by rw [hσ]; rfl
    have b1 : σ[1]? = some (O.row 0 r.cells) := by rw [hσ]; rfl
    have b2 : σ[2]? = some (O.row 0 [.i .u8 l0, .i .u8 l1]) := by rw [hσ]; rfl
    have b3 : σ[3]? = some (O.row 0 [.i .u8 m0, .i .u8 m1]) := by rw [hσ]; rfl
    have bx : σ[ix]? = some (O.row 0 r.cells) := by
      have : ix = 4 ∨ ix = 5 := by omega
      rcases this with rfl | rfl <;> rw [hσ] <;> rfl
    have bY : σ[iy]? = some (O.row 0 r.cells) := by
      have : iy = 4 ∨ iy = 5 := by omega
      rcases this with rfl | rfl <;> rw [hσ] <;> rfl
    clear hσ
    obtain ⟨b1l, b1'⟩ := List.getElem?_eq_some_iff.1 b1
    obtain ⟨b2l, b2'⟩ := List.getElem?_eq_some_iff.1 b2
    obtain ⟨bxl, bx'⟩ := List.getElem?_eq_some_iff.1 bx
    refine ab_seq_k fun K6 h6 => ?_
    simp [w4, w5, w6, w7, w8, w9, w10, w15, w16, b1, b1', b2, b2', bx, bx', r0, r0', l7, wrap64 (x := l0) (by omega) (by omega), tl, wrap64 (x := l0 % 9) (by omega) (by omega), wrap64 (x := r.least - l0 % 9) (by omega) (by omega)]
    refine h6 _ _ _ ?_
    clear h6 K6
    have t0 : (σ.set ix (O.row 0 (r.cells.set 0 (.i .i64 (max 1 (r.least - l0 % 9))))))[0]? = some (O.row 0 [sl t ft, sl b fb]) := by rw [List.getElem?_set_ne (by omega)]; exact b0
    have t1 : (σ.set ix (O.row 0 (r.cells.set 0 (.i .i64 (max 1 (r.least - l0 % 9))))))[1]? = some (O.row 0 r.cells) := by rw [List.getElem?_set_ne (by omega)]; exact b1
    have t3 : (σ.set ix (O.row 0 (r.cells.set 0 (.i .i64 (max 1 (r.least - l0 % 9))))))[3]? = some (O.row 0 [.i .u8 m0, .i .u8 m1]) := by rw [List.getElem?_set_ne (by omega)]; exact b3
    have tx : (σ.set ix (O.row 0 (r.cells.set 0 (.i .i64 (max 1 (r.least - l0 % 9))))))[ix]? = some (O.row 0 (r.cells.set 0 (.i .i64 (max 1 (r.least - l0 % 9))))) := List.getElem?_set_self bxl
    have ty : (σ.set ix (O.row 0 (r.cells.set 0 (.i .i64 (max 1 (r.least - l0 % 9))))))[iy]? = some (O.row 0 r.cells) := by rw [List.getElem?_set_ne hne]; exact bY
    generalize σ.set ix (O.row 0 (r.cells.set 0 (.i .i64 (max 1 (r.least - l0 % 9))))) = U at *
    clear b0 b1 b2 b3 bx bY b1' b2' bx' b1l b2l bxl
    generalize hcx : r.cells.set 0 (.i .i64 (max 1 (r.least - l0 % 9))) = cx at *
    have lcx : cx.length = 7 := by rw [← hcx]; rfl
    obtain ⟨t1l, t1'⟩ := List.getElem?_eq_some_iff.1 t1
    obtain ⟨t3l, t3'⟩ := List.getElem?_eq_some_iff.1 t3
    obtain ⟨txl, tx'⟩ := List.getElem?_eq_some_iff.1 tx
    refine ab_seq_k fun K6 h6 => ?_
    simp [t1, t1', t3, t3', tx, tx', r1, r1', lcx, l7, wrap64 (x := m0) (by omega) (by omega), tm, wrap64 (x := m0 % 9) (by omega) (by omega), wrap64 (x := r.most + m0 % 9) (by omega) (by omega)]
    refine h6 _ _ _ ?_
    clear h6 K6
    have hwx : cx.set 1 (.i .i64 (min 60 (r.most + m0 % 9))) = (r.wide (l0 % 9) (m0 % 9)).cells := by rw [← hcx]; rfl
    rw [hwx]
    have s0 : (U.set ix (O.row 0 (r.wide (l0 % 9) (m0 % 9)).cells))[0]? = some (O.row 0 [sl t ft, sl b fb]) := by rw [List.getElem?_set_ne (by omega)]; exact t0
    have s1 : (U.set ix (O.row 0 (r.wide (l0 % 9) (m0 % 9)).cells))[1]? = some (O.row 0 r.cells) := by rw [List.getElem?_set_ne (by omega)]; exact t1
    have sx : (U.set ix (O.row 0 (r.wide (l0 % 9) (m0 % 9)).cells))[ix]? = some (O.row 0 (r.wide (l0 % 9) (m0 % 9)).cells) := List.getElem?_set_self txl
    have sy : (U.set ix (O.row 0 (r.wide (l0 % 9) (m0 % 9)).cells))[iy]? = some (O.row 0 r.cells) := by rw [List.getElem?_set_ne hne]; exact ty
    generalize U.set ix (O.row 0 (r.wide (l0 % 9) (m0 % 9)).cells) = W at *
    clear t0 t1 t3 tx ty t1' t3' tx' t1l t3l txl U
    have hxw7 : List.take 7 (r.wide (l0 % 9) (m0 % 9)).cells = (r.wide (l0 % 9) (m0 % 9)).cells := rfl
    have hxwl : (r.wide (l0 % 9) (m0 % 9)).cells.length = 7 := rfl
    -- the dearer one
    have hstep : ∀ {τ : List O} {c : List V}, τ[0]? = some (O.row 0 [sl t ft, sl b fb]) → τ[1]? = some (O.row 0 r.cells) → τ[ix]? = some (O.row 0 (r.wide (l0 % 9) (m0 % 9)).cells) → τ[iy]? = some (O.row 0 c) → ∀ c', (τ.set iy (O.row 0 c'))[0]? = some (O.row 0 [sl t ft, sl b fb]) ∧ (τ.set iy (O.row 0 c'))[1]? = some (O.row 0 r.cells) ∧ (τ.set iy (O.row 0 c'))[ix]? = some (O.row 0 (r.wide (l0 % 9) (m0 % 9)).cells) ∧ (τ.set iy (O.row 0 c'))[iy]? = some (O.row 0 c') := by
      intro τ c a0 a1 ax ay c'
      refine ⟨?_, ?_, ?_, List.getElem?_set_self (List.getElem?_eq_some_iff.1 ay).1⟩
      · rw [List.getElem?_set_ne (by omega)]; exact a0
      · rw [List.getElem?_set_ne (by omega)]; exact a1
      · rw [List.getElem?_set_ne (Ne.symm hne)]; exact ax
    obtain ⟨s1l, s1'⟩ := List.getElem?_eq_some_iff.1 s1
    obtain ⟨syl, sy'⟩ := List.getElem?_eq_some_iff.1 sy
    refine ab_seq_k fun K7 h7' => ?_
    simp [s1, s1', sy, sy', r4, r4', l7, wrap64 (x := o) (by omega) (by omega), to_, wrap64 (x := o % 5) (by omega) (by omega), wrap64 (x := r.off + o % 5) (by omega) (by omega)]
    refine h7' _ _ _ ?_
    clear h7' K7
    obtain ⟨v0, v1, vx, vy⟩ := hstep s0 s1 sx sy (r.cells.set 4 (.i .i64 (min 20 (r.off + o % 5))))
    clear s0 s1 sx sy s1l s1' syl sy'
    generalize W.set iy (O.row 0 (r.cells.set 4 (.i .i64 (min 20 (r.off + o % 5))))) = W2 at *
    generalize hcy : r.cells.set 4 (.i .i64 (min 20 (r.off + o % 5))) = cy at *
    have lcy : cy.length = 7 := by rw [← hcy]; rfl
    obtain ⟨v1l, v1'⟩ := List.getElem?_eq_some_iff.1 v1
    obtain ⟨vyl, vy'⟩ := List.getElem?_eq_some_iff.1 vy
    refine ab_seq_k fun K8 h8 => ?_
    simp [v1, v1', vy, vy', r5, r5', lcy, l7, wrap64 (x := d) (by omega) (by omega), td, wrap64 (x := d % 50) (by omega) (by omega), wrap64 (x := r.div + d % 50) (by omega) (by omega)]
    refine h8 _ _ _ ?_
    clear h8 K8
    obtain ⟨u0, u1, ux, uy⟩ := hstep v0 v1 vx vy (cy.set 5 (.i .i64 (min 100 (r.div + d % 50))))
    clear v0 v1 vx vy v1l v1' vyl vy'
    generalize W2.set iy (O.row 0 (cy.set 5 (.i .i64 (min 100 (r.div + d % 50))))) = W3 at *
    generalize hcz : cy.set 5 (.i .i64 (min 100 (r.div + d % 50))) = cz at *
    have lcz : cz.length = 7 := by rw [← hcz, ← hcy]; rfl
    obtain ⟨u1l, u1'⟩ := List.getElem?_eq_some_iff.1 u1
    obtain ⟨uyl, uy'⟩ := List.getElem?_eq_some_iff.1 uy
    refine ab_seq_k fun K9 h9 => ?_
    simp [u1, u1', uy, uy', r6, r6', lcz, l7, wrap64 (x := k) (by omega) (by omega), tk, wrap64 (x := k % 9) (by omega) (by omega), wrap64 (x := r.thin + k % 9) (by omega) (by omega)]
    refine h9 _ _ _ ?_
    clear h9 K9
    have hwy : cz.set 6 (.i .i64 (min 60 (r.thin + k % 9))) = (r.dear (o % 5) (d % 50) (k % 9)).cells := by rw [← hcz, ← hcy]; rfl
    rw [hwy]
    obtain ⟨x0, x1, xx, xy⟩ := hstep u0 u1 ux uy (r.dear (o % 5) (d % 50) (k % 9)).cells
    clear u0 u1 ux uy u1l u1' uyl uy'
    generalize W3.set iy (O.row 0 (r.dear (o % 5) (d % 50) (k % 9)).cells) = Z at *
    have hyw7 : List.take 7 (r.dear (o % 5) (d % 50) (k % 9)).cells = (r.dear (o % 5) (d % 50) (k % 9)).cells := rfl
    have hywl : (r.dear (o % 5) (d % 50) (k % 9)).cells.length = 7 := rfl
    generalize r.dear (o % 5) (d % 50) (k % 9) = ry at *
    generalize r.wide (l0 % 9) (m0 % 9) = rx at *
    obtain ⟨x0l, x0'⟩ := List.getElem?_eq_some_iff.1 x0
    obtain ⟨x1l, x1'⟩ := List.getElem?_eq_some_iff.1 x1
    obtain ⟨xxl, xx'⟩ := List.getElem?_eq_some_iff.1 xx
    obtain ⟨xyl, xy'⟩ := List.getElem?_eq_some_iff.1 xy
    refine ab_seq_k fun K10 h10 => ?_
    simp [x0, x0', x1, x1', h7, l7]
    refine callK_of (B1 _) ?_
    simp [x0, x0', x1, x1', h7, l7]
    refine h10 _ _ _ ?_
    clear h10 K10
    refine ab_seq_k fun K11 h11 => ?_
    simp [x0, x0', xx, xx', hxw7, hxwl]
    refine callK_of (B2 _) ?_
    simp [x0, x0', xx, xx', hxw7, hxwl]
    refine h11 _ _ _ ?_
    clear h11 K11
    refine ab_seq_k fun K12 h12 => ?_
    simp [x0, x0', xy, xy', hyw7, hywl]
    refine callK_of (B3 _) ?_
    simp [x0, x0', xy, xy', hyw7, hywl]
    refine h12 _ _ _ ?_
    clear h12 K12
    refine ab_seq_k fun K13 h13 => ?_
    simp [c1, c2]
    refine callK_of (wk _) ?_
    simp
    refine h13 _ _ _ ?_
    simp
    exact fin_of 1 (by simp [rs11])
  clear h5
  simp only [ab_alt_two, ab_alt_one]
  refine ⟨?_, ?_⟩
  · simp [abDs_consU, drU, recheck_cons, recheck_nil, rcK, IS.dst, h7, l7]
    exact hK 4 5 (by omega) (by omega) (by omega) (by omega) (by omega) _ _ rfl rfl rfl rfl rfl rfl rfl rfl rfl rfl
  · simp [abDs_consU, drU, recheck_cons, recheck_nil, rcK, IS.dst, h7, l7]
    exact hK 5 4 (by omega) (by omega) (by omega) (by omega) (by omega) _ _ rfl rfl rfl rfl rfl rfl rfl rfl rfl rfl
end Go.Ab
