/- Plain books: plain. -/
import Derived.Test.YtgaijhpekajflaaUP
set_option linter.unusedVariables false
set_option linter.unusedSimpArgs false
set_option maxHeartbeats 4000000
set_option maxRecDepth 100000
namespace Go.Ab
open Go Go.Proofs

abbrev Ow := Nat → Nat → Int
def sumN (f : Nat → Int) : Nat → Int
  | 0 => 0
  | n + 1 => sumN f n + f n
theorem sumN_congr {f g : Nat → Int} : ∀ {n : Nat}, (∀ i, i < n → f i = g i) → sumN f n = sumN g n
  | 0, _ => rfl
  | n + 1, h => by simp only [sumN]; rw [sumN_congr (fun i hi => h i (by omega)), h n (by omega)]
theorem sumN_zero {n : Nat} : sumN (fun _ => 0) n = 0 := by
  induction n with
  | zero => rfl
  | succ n ih => simp only [sumN, ih]; rfl
theorem sumN_add {f g : Nat → Int} : ∀ {n : Nat}, sumN (fun i => f i + g i) n = sumN f n + sumN g n
  | 0 => rfl
  | n + 1 => by simp only [sumN]; rw [sumN_add]; omega
theorem sumN_one {a : Nat} {v : Int} : ∀ {n : Nat}, sumN (fun i => if i = a then v else 0) n = if a < n then v else 0
  | 0 => rfl
  | n + 1 => by
    simp only [sumN]
    rw [sumN_one]
    by_cases h : n = a
    · subst h; simp
    · rw [if_neg h]
      by_cases h2 : a < n
      · rw [if_pos h2, if_pos (by omega)]; omega
      · rw [if_neg h2, if_neg (by omega)]; rfl
theorem sumN_le {f g : Nat → Int} : ∀ {n : Nat}, (∀ i, i < n → f i ≤ g i) → sumN f n ≤ sumN g n
  | 0, _ => Int.le_refl _
  | n + 1, h => by
    simp only [sumN]
    have := sumN_le (fun i hi => h i (by omega : i < n + 1)) (n := n)
    have := h n (by omega)
    omega
theorem sumN_shift {f : Nat → Int} : ∀ {n : Nat}, sumN (fun j => f (j + 1)) n + f 0 = sumN f (n + 1)
  | 0 => by simp [sumN]
  | n + 1 => by
    have := sumN_shift (f := f) (n := n)
    simp only [sumN] at *
    omega
def updO (F : Ow) (a b : Nat) (x : Int) : Ow := fun a' b' => if a' = a ∧ b' = b then x else F a' b'
theorem updO_at {F : Ow} {a b : Nat} {x : Int} : updO F a b x a b = x := by simp [updO]
def balO (N : Nat) (F : Ow) (i : Nat) : Int := sumN (fun a => F a i) N - sumN (fun b => F i b) N
def totO (N : Nat) (F : Ow) : Int := sumN (fun a => sumN (F a) N) N
theorem updO_col {F : Ow} {a b i N : Nat} {x : Int} (ha : a < N) : sumN (fun y => updO F a b x y i) N = sumN (fun y => F y i) N + if i = b then x - F a b else 0 := by
  have : ∀ y, y < N → updO F a b x y i = F y i + (if y = a then (if i = b then x - F a b else 0) else 0) := fun y _ => by
    unfold updO
    by_cases h1 : y = a
    · subst h1
      by_cases h2 : i = b
      · subst h2; simp; omega
      · simp [h2]
    · simp [h1]
  rw [sumN_congr this, sumN_add, sumN_one, if_pos ha]
theorem updO_row {F : Ow} {a b i N : Nat} {x : Int} (hb : b < N) : sumN (updO F a b x i) N = sumN (F i) N + if i = a then x - F a b else 0 := by
  have : ∀ y, y < N → updO F a b x i y = F i y + (if y = b then (if i = a then x - F a b else 0) else 0) := fun y _ => by
    unfold updO
    by_cases h1 : y = b
    · subst h1
      by_cases h2 : i = a
      · subst h2; simp; omega
      · simp [h2]
    · simp [h1]
  rw [sumN_congr this, sumN_add, sumN_one, if_pos hb]
theorem balO_upd {F : Ow} {a b i N : Nat} {x : Int} (ha : a < N) (hb : b < N) : balO N (updO F a b x) i = balO N F i + (if i = b then x - F a b else 0) - (if i = a then x - F a b else 0) := by
  unfold balO
  rw [updO_col ha]
  have h1 := updO_row (F := F) (a := a) (b := b) (i := i) (x := x) hb
  have h2 : sumN (fun b' => updO F a b x i b') N = sumN (updO F a b x i) N := rfl
  have h3 : sumN (fun b => F i b) N = sumN (F i) N := rfl
  rw [h2, h1, h3]
  omega
theorem totO_upd {F : Ow} {a b N : Nat} {x : Int} (ha : a < N) (hb : b < N) : totO N (updO F a b x) = totO N F + (x - F a b) := by
  unfold totO
  rw [sumN_congr (g := fun i => sumN (F i) N + if i = a then x - F a b else 0) (fun i _ => updO_row hb), sumN_add, sumN_one, if_pos ha]
/-! ### One circle is paid -/
def eA (c : List Nat) (i : Nat) : Nat := c.getD i 0
def eB (c : List Nat) (i : Nat) : Nat := c.getD ((i + 1) % c.length) 0
def lessK (F : Ow) (c : List Nat) : Nat → Int
  | 0 => F (eA c (c.length - 1)) (eB c (c.length - 1))
  | k + 1 => min (lessK F c k) (F (eA c k) (eB c k))
def lessC (F : Ow) (c : List Nat) : Int := lessK F c (c.length - 1)
def payTo (F : Ow) (c : List Nat) (l : Int) (k : Nat) : Ow := fun a b => if (List.range k).any (fun j => eA c j == a && eB c j == b) = true then F a b - l else F a b
def redF (F : Ow) (c : List Nat) : Ow := payTo F c (lessC F c) c.length
theorem lessK_le {F : Ow} {c : List Nat} : ∀ {k : Nat}, lessK F c k ≤ F (eA c (c.length - 1)) (eB c (c.length - 1)) ∧ ∀ j, j < k → lessK F c k ≤ F (eA c j) (eB c j)
  | 0 => ⟨Int.le_refl _, fun j h => by omega⟩
  | k + 1 => by
    obtain ⟨h1, h2⟩ := lessK_le (F := F) (c := c) (k := k)
    simp only [lessK]
    refine ⟨by omega, fun j hj => ?_⟩
    by_cases hjk : j = k
    · subst hjk; omega
    · have := h2 j (by omega); omega
theorem lessK_is {F : Ow} {c : List Nat} : ∀ {k : Nat}, lessK F c k = F (eA c (c.length - 1)) (eB c (c.length - 1)) ∨ ∃ j, j < k ∧ lessK F c k = F (eA c j) (eB c j)
  | 0 => .inl rfl
  | k + 1 => by
    simp only [lessK]
    by_cases h : lessK F c k ≤ F (eA c k) (eB c k)
    · rw [Int.min_eq_left h]
      rcases lessK_is (F := F) (c := c) (k := k) with h1 | ⟨j, h1, h2⟩
      · exact .inl h1
      · exact .inr ⟨j, by omega, h2⟩
    · exact .inr ⟨k, by omega, Int.min_eq_right (by omega)⟩
theorem lessC_le {F : Ow} {c : List Nat} {j : Nat} (hj : j < c.length) : lessC F c ≤ F (eA c j) (eB c j) := by
  obtain ⟨h1, h2⟩ := lessK_le (F := F) (c := c) (k := c.length - 1)
  by_cases h : j = c.length - 1
  · subst h; exact h1
  · exact h2 j (by omega)
theorem lessC_is {F : Ow} {c : List Nat} (h : c ≠ []) : ∃ j, j < c.length ∧ lessC F c = F (eA c j) (eB c j) := by
  have := List.length_pos_iff.2 h
  rcases lessK_is (F := F) (c := c) (k := c.length - 1) with h1 | ⟨j, h1, h2⟩
  · exact ⟨c.length - 1, by omega, h1⟩
  · exact ⟨j, by omega, h2⟩
structure OwG (N : Nat) (F : Ow) : Prop where
  nn : ∀ a b, 0 ≤ F a b ∧ F a b ≤ 1000000
  lt : ∀ a b, F a b ≠ 0 → a < N ∧ b < N ∧ a ≠ b
section
variable {N : Nat} {F : Ow} {c : List Nat}
theorem eA_inj (h : c.Nodup) {i j : Nat} (hi : i < c.length) (hj : j < c.length) (he : eA c i = eA c j) : i = j := by
  unfold eA at he
  rw [List.getD_eq_getElem?_getD, List.getD_eq_getElem?_getD, List.getElem?_eq_getElem hi, List.getElem?_eq_getElem hj] at he
  have he : c[i] = c[j] := he
  rcases Nat.lt_trichotomy i j with h1 | h1 | h1
  · exact absurd he (List.pairwise_iff_getElem.1 h i j hi hj h1)
  · exact h1
  · exact absurd he.symm (List.pairwise_iff_getElem.1 h j i hj hi h1)
theorem circ_edge (hc : CircOK (edF F) N c) {i : Nat} (hi : i < c.length) : F (eA c i) (eB c i) ≠ 0 ∧ eA c i < N ∧ eB c i < N := by
  have hm : (i + 1) % c.length < c.length := Nat.mod_lt _ (by omega)
  have h1 : c[i]? = some (eA c i) := by unfold eA; rw [List.getD_eq_getElem?_getD, List.getElem?_eq_getElem hi]; rfl
  have h2 : c[(i + 1) % c.length]? = some (eB c i) := by unfold eB; rw [List.getD_eq_getElem?_getD, List.getElem?_eq_getElem hm]; rfl
  exact ⟨by simpa [edF] using hc.cl i _ _ h1 h2, hc.lt _ (List.mem_of_getElem? h1), hc.lt _ (List.mem_of_getElem? h2)⟩
theorem payTo_succ (h : c.Nodup) {l : Int} {k : Nat} (hk : k < c.length) : payTo F c l (k + 1) = updO (payTo F c l k) (eA c k) (eB c k) (F (eA c k) (eB c k) - l) ∧ payTo F c l k (eA c k) (eB c k) = F (eA c k) (eB c k) := by
  constructor
  · funext a b
    unfold payTo updO
    rw [List.range_succ, List.any_append]
    by_cases h1 : a = eA c k ∧ b = eB c k
    · obtain ⟨rfl, rfl⟩ := h1
      simp
    · rw [if_neg h1]
      have : ([k].any fun j => eA c j == a && eB c j == b) = false := by
        simp
        intro h2 h3
        exact h1 ⟨h2.symm, h3.symm⟩
      rw [this, Bool.or_false]
  · unfold payTo
    rw [if_neg]
    intro h1
    obtain ⟨j, hj, h2⟩ := List.any_eq_true.1 h1
    simp at hj h2
    have := eA_inj h (by omega) hk h2.1
    omega
theorem payTo_zero {l : Int} : payTo F c l 0 = F := by funext a b; simp [payTo]
theorem sum_turn {g : Nat → Int} (h : c ≠ []) : sumN (fun j => g (eB c j)) c.length = sumN (fun j => g (eA c j)) c.length := by
  obtain ⟨n, hn⟩ : ∃ n, c.length = n + 1 := ⟨c.length - 1, by have := List.length_pos_iff.2 h; omega⟩
  rw [hn]
  have h0 : eB c n = eA c 0 := by unfold eB eA; rw [hn, Nat.mod_self]
  have h1 : ∀ j, j < n → g (eB c j) = g (eA c (j + 1)) := fun j hj => by unfold eB eA; rw [hn, Nat.mod_eq_of_lt (by omega)]
  rw [← sumN_shift (f := fun j => g (eA c j))]
  simp only [sumN]
  rw [sumN_congr h1, h0]
theorem bal_pay (hc : CircOK (edF F) N c) {l : Int} {i : Nat} : ∀ {k : Nat}, k ≤ c.length → balO N (payTo F c l k) i = balO N F i - sumN (fun j => if eB c j = i then l else 0) k + sumN (fun j => if eA c j = i then l else 0) k
  | 0, _ => by rw [payTo_zero]; simp [sumN]
  | k + 1, hk => by
    obtain ⟨h1, h2⟩ := payTo_succ (F := F) hc.nd (l := l) (show k < c.length by omega)
    obtain ⟨h3, h4, h5⟩ := circ_edge hc (show k < c.length by omega)
    rw [h1, balO_upd h4 h5, h2, bal_pay hc (by omega)]
    simp only [sumN]
    have e1 : (i = eB c k) = (eB c k = i) := by rw [eq_iff_iff]; exact eq_comm
    have e2 : (i = eA c k) = (eA c k = i) := by rw [eq_iff_iff]; exact eq_comm
    simp only [e1, e2]
    split <;> split <;> omega
theorem bal_red (hc : CircOK (edF F) N c) (h0 : c ≠ []) {i : Nat} : balO N (redF F c) i = balO N F i := by
  unfold redF
  rw [bal_pay hc (Nat.le_refl _), sum_turn (g := fun x => if x = i then lessC F c else 0) h0]
  omega
theorem tot_pay (hc : CircOK (edF F) N c) {l : Int} : ∀ {k : Nat}, k ≤ c.length → totO N (payTo F c l k) = totO N F - l * k
  | 0, _ => by rw [payTo_zero]; simp
  | k + 1, hk => by
    obtain ⟨h1, h2⟩ := payTo_succ (F := F) hc.nd (l := l) (show k < c.length by omega)
    obtain ⟨h3, h4, h5⟩ := circ_edge hc (show k < c.length by omega)
    rw [h1, totO_upd h4 h5, h2, tot_pay hc (by omega)]
    have : l * ((k + 1 : Nat) : Int) = l * k + l := by rw [Int.natCast_add, Int.mul_add]; simp
    omega
theorem less_pos (hF : OwG N F) (hc : CircOK (edF F) N c) (h0 : c ≠ []) : 1 ≤ lessC F c := by
  obtain ⟨j, hj, h⟩ := lessC_is (F := F) h0
  have h1 := (circ_edge hc hj).1
  have h2 := (hF.nn (eA c j) (eB c j)).1
  omega
theorem tot_red (hF : OwG N F) (hc : CircOK (edF F) N c) (h0 : c ≠ []) : totO N (redF F c) < totO N F := by
  unfold redF
  rw [tot_pay hc (Nat.le_refl _)]
  have h1 := less_pos hF hc h0
  have h2 := List.length_pos_iff.2 h0
  have := Int.mul_le_mul (a := 1) (b := 1) h1 (show (1 : Int) ≤ c.length by omega) (by omega) (by omega)
  omega
theorem payTo_b (hF : OwG N F) (hc : CircOK (edF F) N c) (h0 : c ≠ []) {k : Nat} (hk : k ≤ c.length) (a b : Nat) : 0 ≤ payTo F c (lessC F c) k a b ∧ payTo F c (lessC F c) k a b ≤ F a b := by
  have h1 := less_pos hF hc h0
  have h2 := hF.nn a b
  unfold payTo
  split
  · rename_i h
    obtain ⟨j, hj, h3⟩ := List.any_eq_true.1 h
    simp at hj h3
    have := lessC_le (F := F) (c := c) (j := j) (by omega)
    rw [h3.1, h3.2] at this
    omega
  · omega
theorem payTo_G (hF : OwG N F) (hc : CircOK (edF F) N c) (h0 : c ≠ []) {k : Nat} (hk : k ≤ c.length) : OwG N (payTo F c (lessC F c) k) := by
  refine ⟨fun a b => ?_, fun a b h => ?_⟩
  · have h1 := payTo_b hF hc h0 hk a b
    have h2 := hF.nn a b
    omega
  · have h1 := payTo_b hF hc h0 hk a b
    exact hF.lt a b (by omega)
/-! ### All circles are paid -/
def plainF (N : Nat) : Nat → Ow → Ow
  | 0, F => F
  | k + 1, F => if circF (edF F) N = [] then F else plainF N k (redF F (circF (edF F) N))
structure PlainOK (N : Nat) (F G : Ow) : Prop where
  no : circF (edF G) N = []
  g : OwG N G
  le : ∀ a b, G a b ≤ F a b
  bal : ∀ i, balO N G i = balO N F i
  same : circF (edF F) N = [] → G = F
  less : circF (edF F) N ≠ [] → totO N G < totO N F
theorem edF_lt (hF : OwG N F) : ∀ a b, edF F a b = true → b < N := fun a b h => (hF.lt a b (by simpa [edF] using h)).2.1
theorem tot_nn (hF : OwG N F) : 0 ≤ totO N F := by
  unfold totO
  have h1 : ∀ a, 0 ≤ sumN (F a) N := fun a => by
    have := sumN_le (f := fun _ => 0) (g := F a) (n := N) (fun i _ => (hF.nn a i).1)
    rw [sumN_zero] at this
    exact this
  have := sumN_le (f := fun _ => 0) (g := fun a => sumN (F a) N) (n := N) (fun i _ => h1 i)
  rw [sumN_zero] at this
  exact this
theorem plainF_ok : ∀ (k : Nat) (F : Ow), OwG N F → totO N F ≤ k → PlainOK N F (plainF N k F)
  | 0, F, hF, hk => by
    simp only [plainF]
    have hno : circF (edF F) N = [] := by
      by_cases h : circF (edF F) N = []
      · exact h
      · have h1 := tot_red hF (circ_spec (edF_lt hF)).ok h
        have h2 := tot_nn (payTo_G hF (circ_spec (edF_lt hF)).ok h (Nat.le_refl _))
        unfold redF at h1
        omega
    exact ⟨hno, hF, fun a b => Int.le_refl _, fun i => rfl, fun _ => rfl, fun h => absurd hno h⟩
  | k + 1, F, hF, hk => by
    simp only [plainF]
    by_cases h : circF (edF F) N = []
    · rw [if_pos h]
      exact ⟨h, hF, fun a b => Int.le_refl _, fun i => rfl, fun _ => rfl, fun h' => absurd h h'⟩
    · rw [if_neg h]
      have hc := (circ_spec (edF_lt hF)).ok
      have h1 := tot_red hF hc h
      have hG : OwG N (redF F (circF (edF F) N)) := payTo_G hF hc h (Nat.le_refl _)
      have ih := plainF_ok k _ hG (by omega)
      refine ⟨ih.no, ih.g, fun a b => ?_, fun i => ?_, fun h' => absurd h' h, fun _ => ?_⟩
      · have h2 := ih.le a b
        have h3 : redF F (circF (edF F) N) a b ≤ F a b := (payTo_b hF hc h (Nat.le_refl _) a b).2
        omega
      · rw [ih.bal i, bal_red hc h]
      · by_cases h4 : circF (edF (redF F (circF (edF F) N))) N = []
        · rw [ih.same h4]; exact h1
        · have := ih.less h4; omega
end
/-! ### The list of what is owed -/
def rowD (F : Ow) (a : Nat) : Nat → List Db
  | 0 => []
  | j + 1 => rowD F a j ++ if F a j = 0 then [] else [((a : Int), (j : Int), F a j)]
def lstD (F : Ow) (N : Nat) : Nat → List Db
  | 0 => []
  | i + 1 => lstD F N i ++ rowD F i N
theorem rowD_mem {F : Ow} {a : Nat} {d : Db} : ∀ {n : Nat}, d ∈ rowD F a n ↔ ∃ b, b < n ∧ F a b ≠ 0 ∧ d = ((a : Int), (b : Int), F a b)
  | 0 => by simp [rowD]
  | n + 1 => by
    simp only [rowD, List.mem_append]
    rw [rowD_mem]
    constructor
    · rintro (⟨b, h1, h2, h3⟩ | h)
      · exact ⟨b, by omega, h2, h3⟩
      · by_cases h0 : F a n = 0
        · simp [h0] at h
        · rw [if_neg h0] at h
          simp at h
          exact ⟨n, by omega, h0, h⟩
    · rintro ⟨b, h1, h2, h3⟩
      by_cases hb : b = n
      · subst hb
        rw [if_neg h2]
        exact .inr (by simp [h3])
      · exact .inl ⟨b, by omega, h2, h3⟩
theorem lstD_mem {F : Ow} {N : Nat} {d : Db} : ∀ {n : Nat}, d ∈ lstD F N n ↔ ∃ a b, a < n ∧ b < N ∧ F a b ≠ 0 ∧ d = ((a : Int), (b : Int), F a b)
  | 0 => by simp [lstD]
  | n + 1 => by
    simp only [lstD, List.mem_append]
    rw [lstD_mem, rowD_mem]
    constructor
    · rintro (⟨a, b, h1, h2⟩ | ⟨b, h1, h2, h3⟩)
      · exact ⟨a, b, by omega, h2⟩
      · exact ⟨n, b, by omega, h1, h2, h3⟩
    · rintro ⟨a, b, h1, h2, h3, h4⟩
      by_cases ha : a = n
      · subst ha; exact .inr ⟨b, h2, h3, h4⟩
      · exact .inl ⟨a, b, by omega, h2, h3, h4⟩
/-- Debts by From and To. -/
def ltD (d e : Db) : Prop := d.1 < e.1 ∨ (d.1 = e.1 ∧ d.2.1 < e.2.1)
theorem rowD_sorted {F : Ow} {a : Nat} : ∀ {n : Nat}, (rowD F a n).Pairwise ltD
  | 0 => by simp [rowD]
  | n + 1 => by
    simp only [rowD]
    rw [List.pairwise_append]
    refine ⟨rowD_sorted, by split <;> simp, ?_⟩
    intro d hd e he
    obtain ⟨b, h1, -, rfl⟩ := rowD_mem.1 hd
    split at he
    · simp at he
    · simp at he
      subst he
      exact .inr ⟨rfl, by simp; omega⟩
theorem lstD_sorted {F : Ow} {N : Nat} : ∀ {n : Nat}, (lstD F N n).Pairwise ltD
  | 0 => by simp [lstD]
  | n + 1 => by
    simp only [lstD]
    rw [List.pairwise_append]
    refine ⟨lstD_sorted, rowD_sorted, ?_⟩
    intro d hd e he
    obtain ⟨a, b, h1, h2, h3, rfl⟩ := lstD_mem.1 hd
    obtain ⟨b', h1', h2', rfl⟩ := rowD_mem.1 he
    exact .inl (by simp; omega)
theorem lstD_nodup {F : Ow} {N n : Nat} : ((lstD F N n).map pr).Nodup := by
  refine List.pairwise_map.2 (lstD_sorted.imp fun {d e} h hpr => ?_)
  simp [pr] at hpr
  rcases h with h | h <;> omega
theorem lstD_ok {F : Ow} {N : Nat} (hF : OwG N F) : DbOK N 1000000 (lstD F N N) := by
  intro d hd
  obtain ⟨a, b, h1, h2, h3, rfl⟩ := lstD_mem.1 hd
  have h4 := hF.nn a b
  have h5 := (hF.lt a b h3).2.2
  simp only
  omega
theorem owF_none {D : List Db} {a b : Nat} (h : ∀ d ∈ D, ¬ (d.1 = (a : Int) ∧ d.2.1 = (b : Int))) : owF D a b = 0 := by
  revert h
  refine snoc_ind (P := fun D => (∀ d ∈ D, ¬ (d.1 = (a : Int) ∧ d.2.1 = (b : Int))) → owF D a b = 0) (fun _ => rfl) ?_ D
  intro D d ih h
  rw [owF_snoc, ih (fun x hx => h x (List.mem_append_left _ hx)), if_neg (h d (by simp))]
  rfl
/-- What is owed, by a list without equal pairs. -/
theorem owF_mem {D : List Db} (hn : (D.map pr).Nodup) {d : Db} (hd : d ∈ D) {a b : Nat} (h1 : d.1 = (a : Int)) (h2 : d.2.1 = (b : Int)) : owF D a b = d.2.2 := by
  revert hn hd
  refine snoc_ind (P := fun D => (D.map pr).Nodup → d ∈ D → owF D a b = d.2.2) (fun _ h => by simp at h) ?_ D
  intro D e ih hn hd
  rw [List.map_append, List.nodup_append] at hn
  rw [owF_snoc]
  rcases List.mem_append.1 hd with hd | hd
  · rw [ih hn.1 hd, if_neg, Int.add_zero]
    rintro ⟨h3, h4⟩
    exact hn.2.2 (pr d) (List.mem_map_of_mem hd) (pr e) (by simp) (by simp [pr, h1, h2, h3, h4])
  · simp at hd
    subst hd
    rw [if_pos ⟨h1, h2⟩, owF_none, Int.zero_add]
    intro x hx hxx
    exact hn.2.2 (pr x) (List.mem_map_of_mem hx) (pr d) (by simp) (by simp [pr, h1, h2, hxx.1, hxx.2])
theorem owF_lstD {F : Ow} {N : Nat} (hF : OwG N F) : owF (lstD F N N) = F := by
  funext a b
  by_cases h : F a b = 0
  · rw [owF_none, h]
    intro d hd hab
    obtain ⟨a', b', h1, h2, h3, rfl⟩ := lstD_mem.1 hd
    simp at hab
    obtain ⟨rfl, rfl⟩ : a' = a ∧ b' = b := ⟨by omega, by omega⟩
    exact h3 h
  · obtain ⟨h1, h2, -⟩ := hF.lt a b h
    rw [owF_mem (d := ((a : Int), (b : Int), F a b)) lstD_nodup (lstD_mem.2 ⟨a, b, h1, h2, h, rfl⟩) rfl rfl]
theorem owG_of {N : Nat} {D : List Db} (hD : DbOK N 1000000 D) (hn : (D.map pr).Nodup) : OwG N (owF D) := by
  obtain ⟨h, -⟩ := ow_ok hD hn
  exact ⟨h.nn, h.lt⟩
theorem owF_pos {N : Nat} {D : List Db} (hD : DbOK N 1000000 D) (hn : (D.map pr).Nodup) {a b : Nat} (h : owF D a b ≠ 0) : ∃ d ∈ D, d.1 = (a : Int) ∧ d.2.1 = (b : Int) ∧ d.2.2 = owF D a b := by
  by_cases hex : ∃ d ∈ D, d.1 = (a : Int) ∧ d.2.1 = (b : Int)
  · obtain ⟨d, hd, h1, h2⟩ := hex
    exact ⟨d, hd, h1, h2, (owF_mem hn hd h1 h2).symm⟩
  · exact absurd (owF_none fun d hd hab => hex ⟨d, hd, hab⟩) h
theorem edF_owB {N : Nat} {D : List Db} (hD : DbOK N 1000000 D) (hn : (D.map pr).Nodup) : edF (owF D) = owB D := by
  funext a b
  rw [Bool.eq_iff_iff, owB_iff]
  simp only [edF, decide_eq_true_eq]
  constructor
  · intro h
    obtain ⟨d, hd, h1, h2, -⟩ := owF_pos hD hn h
    exact ⟨d, hd, h1, h2⟩
  · rintro ⟨d, hd, h1, h2⟩
    rw [owF_mem hn hd h1 h2]
    have := hD d hd
    omega
theorem balF_owF {N : Nat} {M : Int} {D : List Db} {i : Nat} : DbOK N M D → i < N → balF D i = balO N (owF D) i := by
  refine snoc_ind (P := fun D => DbOK N M D → i < N → balF D i = balO N (owF D) i) ?_ ?_ D
  · intro _ _
    unfold balO
    have : ∀ a b, owF [] a b = 0 := fun a b => rfl
    rw [sumN_congr (g := fun _ => 0) (fun y _ => this y i), sumN_congr (g := fun _ => 0) (fun y _ => this i y), sumN_zero]
    rfl
  · intro D d ih hD hi
    have hd := hD d (by simp)
    obtain ⟨p, hp⟩ : ∃ p : Nat, d.1 = (p : Int) := ⟨d.1.toNat, by omega⟩
    obtain ⟨q, hq⟩ : ∃ q : Nat, d.2.1 = (q : Int) := ⟨d.2.1.toNat, by omega⟩
    have hF : owF (D ++ [d]) = updO (owF D) p q (owF D p q + d.2.2) := by
      funext a b
      rw [owF_snoc, hp, hq]
      unfold updO
      by_cases h : a = p ∧ b = q
      · obtain ⟨rfl, rfl⟩ := h
        simp
      · rw [if_neg h, if_neg (by omega), Int.add_zero]
    rw [balF_snoc, ih (fun x hx => hD x (List.mem_append_left _ hx)) hi, hF, balO_upd (by omega) (by omega)]
    unfold dlt
    rw [hp, hq]
    have e1 : ((q : Int) = (i : Int)) = (i = q) := by rw [eq_iff_iff]; omega
    have e2 : ((p : Int) = (i : Int)) = (i = p) := by rw [eq_iff_iff]; omega
    simp only [e1, e2]
    split <;> split <;> omega
theorem totD_owF {N : Nat} {M : Int} {D : List Db} : DbOK N M D → (D.map (·.2.2)).sum = totO N (owF D) := by
  refine snoc_ind (P := fun D => DbOK N M D → (D.map (·.2.2)).sum = totO N (owF D)) ?_ ?_ D
  · intro _
    unfold totO
    have : ∀ a b, owF [] a b = 0 := fun a b => rfl
    rw [sumN_congr (g := fun _ => 0) (fun y _ => by rw [sumN_congr (g := fun _ => 0) (fun z _ => this y z), sumN_zero]), sumN_zero]
    rfl
  · intro D d ih hD
    have hd := hD d (by simp)
    obtain ⟨p, hp⟩ : ∃ p : Nat, d.1 = (p : Int) := ⟨d.1.toNat, by omega⟩
    obtain ⟨q, hq⟩ : ∃ q : Nat, d.2.1 = (q : Int) := ⟨d.2.1.toNat, by omega⟩
    have hF : owF (D ++ [d]) = updO (owF D) p q (owF D p q + d.2.2) := by
      funext a b
      rw [owF_snoc, hp, hq]
      unfold updO
      by_cases h : a = p ∧ b = q
      · obtain ⟨rfl, rfl⟩ := h
        simp
      · rw [if_neg h, if_neg (by omega), Int.add_zero]
    rw [List.map_append, List.sum_append, ih (fun x hx => hD x (List.mem_append_left _ hx)), hF, totO_upd (by omega) (by omega)]
    simp
    omega
theorem nodup_sub {α : Type} [DecidableEq α] : ∀ {l m : List α}, l.Nodup → (∀ x ∈ l, x ∈ m) → l.length ≤ m.length
  | [], _, _, _ => by simp
  | x :: l, m, hn, h => by
    obtain ⟨h1, h2⟩ := List.nodup_cons.1 hn
    have hx := h x (by simp)
    have ih := nodup_sub (m := m.erase x) h2 (fun y hy => by
      have hyx : y ≠ x := fun e => h1 (e ▸ hy)
      exact (List.mem_erase_of_ne hyx).2 (h y (by simp [hy])))
    rw [List.length_erase_of_mem hx] at ih
    have := List.length_pos_of_mem hx
    simp
    omega
/-- The plain book. -/
def plainD (N : Nat) (D : List Db) : List Db := lstD (plainF N 40000000 (owF D)) N N
structure PlainB (N : Nat) (D D' : List Db) : Prop where
  ok : checkBook N D' = 0
  no : circF (owB D') N = []
  srt : D'.Pairwise ltD
  le : ∀ d ∈ D', ∃ e ∈ D, e.1 = d.1 ∧ e.2.1 = d.2.1 ∧ d.2.2 ≤ e.2.2
  bal : ∀ i, i < N → balF D' i = balF D i
  len : D'.length ≤ D.length
  sum : (D'.map (·.2.2)).sum ≤ (D.map (·.2.2)).sum
  less : (D'.map (·.2.2)).sum < (D.map (·.2.2)).sum ↔ circF (owB D) N ≠ []
theorem sum_b {M : Int} {D : List Db} {n : Int} (hM : 0 ≤ M) : DbOK n M D → (D.map (·.2.2)).sum ≤ M * D.length := by
  refine snoc_ind (P := fun D => DbOK n M D → (D.map (·.2.2)).sum ≤ M * D.length) (fun _ => by simp) ?_ D
  intro D d ih hD
  have := ih (fun x hx => hD x (List.mem_append_left _ hx))
  have := hD d (by simp)
  rw [List.map_append, List.sum_append, List.length_append, Int.natCast_add, Int.mul_add]
  simp
  omega
theorem plain_ok {N : Nat} {D : List Db} (hc : checkBook N D = 0) : PlainOK N (owF D) (plainF N 40000000 (owF D)) := by
  obtain ⟨⟨n1, n2⟩, hlen, hD, hnd⟩ := book_ok hc
  refine plainF_ok _ _ (owG_of hD hnd) ?_
  rw [← totD_owF hD]
  have := sum_b (by omega) hD
  omega
theorem plainB_ok {N : Nat} {D : List Db} (hc : checkBook N D = 0) : PlainB N D (plainD N D) := by
  obtain ⟨⟨n1, n2⟩, hlen, hD, hnd⟩ := book_ok hc
  have hP := plain_ok hc
  have hG := owG_of hD hnd
  unfold plainD
  generalize plainF N 40000000 (owF D) = G at *
  have hD' := lstD_ok hP.g
  have ho := owF_lstD hP.g
  have hsub : ∀ d ∈ lstD G N N, ∃ e ∈ D, e.1 = d.1 ∧ e.2.1 = d.2.1 ∧ d.2.2 ≤ e.2.2 := fun d hd => by
    obtain ⟨a, b, h1, h2, h3, rfl⟩ := lstD_mem.1 hd
    have h4 := hP.le a b
    have h5 := (hP.g.nn a b).1
    obtain ⟨e, he, e1, e2, e3⟩ := owF_pos hD hnd (a := a) (b := b) (by omega)
    exact ⟨e, he, e1, e2, by simp only; omega⟩
  have hl : (lstD G N N).length ≤ D.length := by
    have := nodup_sub (m := D.map pr) (lstD_nodup (F := G) (N := N) (n := N)) (fun x hx => by
      obtain ⟨d, hd, rfl⟩ := List.mem_map.1 hx
      obtain ⟨e, he, e1, e2, -⟩ := hsub d hd
      exact List.mem_map.2 ⟨e, he, by simp [pr, e1, e2]⟩)
    simpa using this
  have hs1 := totD_owF hD
  have hs2 := totD_owF hD'
  rw [ho] at hs2
  have hlt : totO N G < totO N (owF D) ↔ circF (owB D) N ≠ [] := by
    rw [← edF_owB hD hnd]
    constructor
    · intro h h0
      rw [hP.same h0] at h
      omega
    · exact hP.less
  refine ⟨book_mk n1 n2 (by omega) hD' lstD_nodup, ?_, lstD_sorted, hsub, fun i hi => ?_, hl, ?_, by rw [hs1, hs2]; exact hlt⟩
  · rw [← edF_owB hD' lstD_nodup, ho]; exact hP.no
  · rw [balF_owF hD' hi, balF_owF hD hi, ho]; exact hP.bal i
  · rw [hs1, hs2]
    by_cases h : circF (edF (owF D)) N = []
    · rw [hP.same h]; exact Int.le_refl _
    · have := hP.less h; omega
/-- A plain book is returned as it is. -/
theorem plain_again {N : Nat} {D : List Db} (hc : checkBook N D = 0) : plainD N (plainD N D) = plainD N D := by
  have hB := plainB_ok hc
  have hP := plain_ok hc
  have hP2 := plain_ok hB.ok
  have e : owF (plainD N D) = plainF N 40000000 (owF D) := owF_lstD hP.g
  have : plainF N 40000000 (owF (plainD N D)) = owF (plainD N D) := hP2.same (by rw [e]; exact hP.no)
  show lstD (plainF N 40000000 (owF (plainD N D))) N N = lstD (plainF N 40000000 (owF D)) N N
  rw [this, e]
end Go.Ab
