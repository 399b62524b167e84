/- Books that are scaled, turned, joined, made greater by one debt: plain. -/
import Derived.Test.YtgaijhpekajflaaUI
import Derived.Test.YtgaijhpekajflaaUW
set_option linter.unusedVariables false
set_option linter.unusedSimpArgs false
set_option maxHeartbeats 4000000
set_option maxRecDepth 100000
namespace Go.Ab
open Go Go.Proofs

theorem prP_same {F F' : Nat → Int} {N : Nat} (h : ∀ s, sumF F s N = 0 ↔ sumF F' s N = 0) (s : Nat) : prP F N s = prP F' N s := by
  have : evF F N = evF F' N := by
    funext t
    unfold evF
    congr 1
    exact decide_eq_decide.2 (h t)
  unfold prP
  rw [this]
theorem topP_same {N : Nat} {D D' : List Db} (h : ∀ s, sumF (balF D) s N = 0 ↔ sumF (balF D') s N = 0) : topP N D = topP N D' := prP_same h _
/-- Each sum so many times as great. -/
def timesD (k : Int) (D : List Db) : List Db := D.map fun d => (d.1, d.2.1, k * d.2.2)
def turnD (D : List Db) : List Db := D.map fun d => (d.2.1, d.1, d.2.2)
@[simp] theorem timesD_len {k D} : (timesD k D).length = D.length := by simp [timesD]
@[simp] theorem turnD_len {D} : (turnD D).length = D.length := by simp [turnD]
theorem timesD_take {k : Int} {D : List Db} {i : Nat} {d : Db} (h : D[i]? = some d) : timesD k (D.take (i + 1)) = timesD k (D.take i) ++ [(d.1, d.2.1, k * d.2.2)] := by
  rw [List.take_add_one, h]; simp [timesD]
theorem turnD_take {D : List Db} {i : Nat} {d : Db} (h : D[i]? = some d) : turnD (D.take (i + 1)) = turnD (D.take i) ++ [(d.2.1, d.1, d.2.2)] := by
  rw [List.take_add_one, h]; simp [turnD]
theorem balF_times {k : Int} {D : List Db} {i : Nat} : balF (timesD k D) i = k * balF D i := by
  refine snoc_ind (P := fun D => balF (timesD k D) i = k * balF D i) (by simp [timesD, balF]) ?_ D
  intro D d ih
  have e : timesD k (D ++ [d]) = timesD k D ++ [(d.1, d.2.1, k * d.2.2)] := by simp [timesD]
  rw [e, balF_snoc, balF_snoc, ih, Int.mul_add]
  congr 1
  unfold dlt
  simp only
  rw [Int.mul_sub]
  congr 1
  · split <;> simp
  · split <;> simp
theorem balF_turn {D : List Db} {i : Nat} : balF (turnD D) i = - balF D i := by
  refine snoc_ind (P := fun D => balF (turnD D) i = - balF D i) (by simp [turnD, balF]) ?_ D
  intro D d ih
  have e : turnD (D ++ [d]) = turnD D ++ [(d.2.1, d.1, d.2.2)] := by simp [turnD]
  rw [e, balF_snoc, balF_snoc, ih]
  unfold dlt
  simp only
  omega
theorem sumF_mul {k : Int} {F : Nat → Int} {s : Nat} : ∀ {m : Nat}, sumF (fun i => k * F i) s m = k * sumF F s m
  | 0 => by simp [sumF]
  | m + 1 => by
    simp only [sumF]
    rw [sumF_mul, Int.mul_add]
    congr 1
    split <;> simp
theorem top_times {N : Nat} {k : Int} {D : List Db} (hk : 1 ≤ k) : topP N (timesD k D) = topP N D := by
  refine topP_same fun s => ?_
  rw [sumF_congr (G := fun i => k * balF D i) (fun i _ => balF_times), sumF_mul]
  constructor
  · intro h
    rcases Int.mul_eq_zero.1 h with h | h
    · omega
    · exact h
  · intro h; rw [h, Int.mul_zero]
theorem top_turn {N : Nat} {D : List Db} : topP N (turnD D) = topP N D := by
  refine topP_same fun s => ?_
  rw [sumF_congr (G := fun i => (-1) * balF D i) (fun i _ => by rw [balF_turn]; omega), sumF_mul]
  omega
theorem turn_ok {N : Nat} {D : List Db} (hc : checkBook N D = 0) : checkBook N (turnD D) = 0 := by
  obtain ⟨⟨n1, n2⟩, hlen, hD, hnd⟩ := book_ok hc
  refine book_mk n1 n2 (by simpa using hlen) (fun d hd => ?_) ?_
  · obtain ⟨e, he, rfl⟩ := List.mem_map.1 hd
    have := hD e he
    simp only
    omega
  · unfold turnD
    rw [List.map_map]
    have e : (D.map (pr ∘ fun d => (d.2.1, d.1, d.2.2))) = (D.map pr).map List.reverse := by
      rw [List.map_map]
      refine List.map_congr_left fun d _ => ?_
      simp [pr]
    rw [e]
    exact List.pairwise_map.2 (List.Pairwise.imp (fun {a b} hab h => hab (by simpa using congrArg List.reverse h)) hnd)
theorem times_DbOK {N : Nat} {k : Int} {D : List Db} (h : checkBook N (timesD k D) = 0) : DbOK N 1000000 (timesD k D) := (book_ok h).2.2.1
/-! ### One more debt -/
theorem top_more {N : Nat} {M M' : Int} {D D' : List Db} {d : Db} (hN1 : 1 ≤ N) (hN : N ≤ 10) (hD : DbOK N 1000000 D) (h1 : 0 ≤ d.1 ∧ d.1 < N) (h2 : 0 ≤ d.2.1 ∧ d.2.1 < N)
    (hs : ∀ s, s.testBit d.1.toNat = s.testBit d.2.1.toNat → sumF (balF D) s N = 0 → sumF (balF D') s N = 0) : topP N D ≤ topP N D' + 1 := by
  obtain ⟨o, -, hch⟩ := fin_ex _ _ _ (Chain.start (F := balF D) (N := N) (bal_all hD rfl))
  have hol := chain_top hch
  obtain ⟨G', g1, g2, g3, g4, g5⟩ := merge_ex (N := N) (a := d.1.toNat) (b := d.2.1.toNat) (G := o) (P := fun g => g ≠ 0 ∧ sumF (balF D) g N = 0) (fun m hm => by rw [hch.one m hm]; simp) (by omega) (by omega)
    (fun g hg => by have := hch.og g hg; exact ⟨by omega, this.2.2⟩)
    (fun x y hx hy hd => ⟨fun hz => hx.1 (by have := (sub_or_left (a := x) (b := y)).le; omega), by rw [sumF_or hd, hx.2, hy.2]; rfl⟩) (fun g hg => (hch.og g hg).2.1)
  have := parts_le (F := balF D') (N := N) (G := G') (fun g hg => ⟨g3 g hg, ev_iff.2 ⟨(g2 g hg).1, hs g (g4 g hg) (g2 g hg).2⟩⟩) (fun m hm => by rw [g1 m hm]; omega)
  unfold topP at *
  omega
theorem sum_snoc {N : Nat} {D : List Db} {d : Db} {s : Nat} (h1 : 0 ≤ d.1 ∧ d.1 < N) (h2 : 0 ≤ d.2.1 ∧ d.2.1 < N) (hb : s.testBit d.1.toNat = s.testBit d.2.1.toNat) : sumF (balF (D ++ [d])) s N = sumF (balF D) s N := by
  have e : sumF (balF (D ++ [d])) s N = sumF (balF D) s N + sumF (dlt d) s N := by
    rw [← sumF_add]
    exact sumF_congr fun i _ => balF_snoc
  rw [e, sumF_dlt h1.1 h2.1, hb]
  have a : d.1.toNat < N := by omega
  have b : d.2.1.toNat < N := by omega
  simp only [a, b, and_true]
  omega
theorem top_debt {N : Nat} {D : List Db} {d : Db} (hN1 : 1 ≤ N) (hN : N ≤ 10) (hD : DbOK N 1000000 (D ++ [d])) : topP N D ≤ topP N (D ++ [d]) + 1 ∧ topP N (D ++ [d]) ≤ topP N D + 1 := by
  have hd := hD d (by simp)
  have hD0 : DbOK N 1000000 D := fun x hx => hD x (List.mem_append_left _ hx)
  exact ⟨top_more (M := 0) (M' := 0) hN1 hN hD0 hd.1 hd.2.1 (fun s hb h => by rw [sum_snoc hd.1 hd.2.1 hb]; exact h),
    top_more (M := 0) (M' := 0) hN1 hN hD hd.1 hd.2.1 (fun s hb h => by rw [sum_snoc hd.1 hd.2.1 hb] at h; exact h)⟩
/-! ### Two books of different mills -/
def shiftD (k : Nat) (D : List Db) : List Db := D.map fun d => ((k : Int) + d.1, (k : Int) + d.2.1, d.2.2)
@[simp] theorem shiftD_len {k D} : (shiftD k D).length = D.length := by simp [shiftD]
theorem balF_shift {k : Nat} {D : List Db} {i : Nat} : balF (shiftD k D) (k + i) = balF D i := by
  refine snoc_ind (P := fun D => balF (shiftD k D) (k + i) = balF D i) rfl ?_ D
  intro D d ih
  have e : shiftD k (D ++ [d]) = shiftD k D ++ [((k : Int) + d.1, (k : Int) + d.2.1, d.2.2)] := by simp [shiftD]
  rw [e, balF_snoc, balF_snoc, ih]
  congr 1
  unfold dlt
  simp only
  have e1 : ((k : Int) + d.2.1 = ((k + i : Nat) : Int)) = (d.2.1 = (i : Int)) := by rw [eq_iff_iff]; omega
  have e2 : ((k : Int) + d.1 = ((k + i : Nat) : Int)) = (d.1 = (i : Int)) := by rw [eq_iff_iff]; omega
  simp only [e1, e2]
theorem balF_shift_low {k : Nat} {n M : Int} {D : List Db} (hD : DbOK n M D) {i : Nat} (hi : i < k) : balF (shiftD k D) i = 0 := by
  revert hD
  refine snoc_ind (P := fun D => DbOK n M D → balF (shiftD k D) i = 0) (fun _ => rfl) ?_ D
  intro D d ih hD
  have hd := hD d (by simp)
  have e : shiftD k (D ++ [d]) = shiftD k D ++ [((k : Int) + d.1, (k : Int) + d.2.1, d.2.2)] := by simp [shiftD]
  rw [e, balF_snoc, ih (fun x hx => hD x (List.mem_append_left _ hx))]
  unfold dlt
  simp only
  rw [if_neg (by omega), if_neg (by omega)]
  rfl
theorem sumF_shift {F F' : Nat → Int} {k : Nat} {g : Nat} (h : ∀ i, F (k + i) = F' i) : ∀ {m : Nat}, sumF F (g <<< k) (k + m) = sumF F' g m
  | 0 => by
    have : ∀ j, j ≤ k → sumF F (g <<< k) j = 0 := fun j => by
      induction j with
      | zero => intro _; rfl
      | succ j ih =>
        intro hj
        simp only [sumF]
        rw [ih (by omega), Nat.testBit_shiftLeft]
        simp [show ¬ k ≤ j by omega]
    exact this k (Nat.le_refl _)
  | m + 1 => by
    rw [← Nat.add_assoc]
    simp only [sumF]
    rw [sumF_shift h, Nat.testBit_shiftLeft, h]
    simp
theorem sumF_low {F : Nat → Int} {k g : Nat} (hg : g < 2 ^ k) : ∀ {m : Nat}, sumF F g (k + m) = sumF F g k
  | 0 => rfl
  | m + 1 => by
    rw [← Nat.add_assoc]
    simp only [sumF]
    rw [sumF_low hg, Nat.testBit_lt_two_pow (Nat.lt_of_lt_of_le hg (Nat.pow_le_pow_right (by omega) (by omega)))]
    simp
theorem top_join {N M : Nat} {D E : List Db} (hD : DbOK N 1000000 D) (hE : DbOK M 1000000 E) : topP N D + topP M E ≤ topP (N + M) (D ++ shiftD N E) := by
  obtain ⟨o, -, hch⟩ := fin_ex _ _ _ (Chain.start (F := balF D) (N := N) (bal_all hD rfl))
  obtain ⟨p, -, hcp⟩ := fin_ex _ _ _ (Chain.start (F := balF E) (N := M) (bal_all hE rfl))
  have h1 := chain_top hch
  have h2 := chain_top hcp
  have hpow : 2 ^ (N + M) = 2 ^ N * 2 ^ M := Nat.pow_add ..
  have hM0 := Nat.two_pow_pos M
  have hN0 := Nat.two_pow_pos N
  have := parts_le (F := balF (D ++ shiftD N E)) (N := N + M) (G := o ++ p.map (fun g => g <<< N)) (fun g hg => ?_) (fun m hm => ?_)
  · rw [List.length_append, List.length_map] at this
    unfold topP at *
    omega
  · rcases List.mem_append.1 hg with hg | hg
    · have := hch.og g hg
      have hlt : g < 2 ^ (N + M) := Nat.lt_of_lt_of_le this.2.1 (Nat.pow_le_pow_right (by omega) (by omega))
      refine ⟨hlt, ev_iff.2 ⟨by omega, ?_⟩⟩
      rw [sumF_low this.2.1, sumF_congr (G := balF D) (fun i hi => by rw [balF_app, balF_shift_low hE hi, Int.add_zero])]
      exact this.2.2
    · obtain ⟨q, hq, rfl⟩ := List.mem_map.1 hg
      have := hcp.og q hq
      have e : q <<< N = q * 2 ^ N := Nat.shiftLeft_eq ..
      have hlt : q <<< N < 2 ^ (N + M) := by
        rw [e, hpow, Nat.mul_comm (2 ^ N)]
        exact Nat.mul_lt_mul_of_pos_right this.2.1 hN0
      refine ⟨hlt, ev_iff.2 ⟨?_, ?_⟩⟩
      · rw [e]
        have := Nat.mul_pos (show 0 < q by omega) hN0
        omega
      · rw [sumF_shift (F' := balF E) (fun i => by rw [balF_app, balF_shift, balF_out hD (by omega), Int.zero_add])]
        exact this.2.2
  · unfold cntB
    rw [List.countP_append, List.countP_map]
    by_cases hmN : m < N
    · have a := hch.one m hmN
      unfold cntB at a
      have b : List.countP ((fun g => g.testBit m) ∘ fun g => g <<< N) p = 0 := by
        rw [List.countP_eq_zero]
        intro g _
        simp [Nat.testBit_shiftLeft]
        omega
      rw [a, b]; simp
    · have a := cntB_out (N := N) (fun g hg => (hch.og g hg).2.1) (m := m) (by omega)
      unfold cntB at a
      have b := hcp.one (m - N) (by omega)
      unfold cntB at b
      have e : List.countP ((fun g => g.testBit m) ∘ fun g => g <<< N) p = List.countP (fun g => g.testBit (m - N)) p := by
        refine List.countP_congr fun g _ => ?_
        simp [Nat.testBit_shiftLeft, show N ≤ m by omega]
      rw [a, e, b]; simp
end Go.Ab
