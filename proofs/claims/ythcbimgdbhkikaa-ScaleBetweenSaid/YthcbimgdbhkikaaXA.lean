/- Between which ends best cuttings scale by another rule (plain). -/
import Derived.Test.YthcbimgdbhkikaaS6
set_option linter.unusedVariables false
set_option linter.unusedSimpArgs false
set_option maxHeartbeats 4000000
namespace Go.Ab
open Go Go.Proofs

def meet (p q : Int × Int) : Int × Int := (min p.1 q.1, max p.2 q.2)
def joinR (o : Option (Int × Int)) (q : Int × Int) : Option (Int × Int) := match o with
  | none => some q
  | some p => some (meet p q)
def shift (k : Int) (q : Int × Int) : Int × Int := (k + q.1, k + q.2)

section
variable (rest : Nat → Int) (sc sc2 : Nat → Nat → Int)
def bacc (bn : Nat → Int × Int) (i : Nat) : Nat → Option (Int × Int)
  | 0 => if rest i = rest (i + 1) then some (bn (i + 1)) else none
  | j + 1 => if 0 < sc i (i + 1 + j) ∧ rest i = sc i (i + 1 + j) + rest (i + 1 + j) then joinR (bacc bn i j) (shift (sc2 i (i + 1 + j)) (bn (i + 1 + j))) else bacc bn i j
def bvals (L : Nat) : Nat → List (Int × Int)
  | 0 => [(0, 0)]
  | k + 1 => (bacc rest sc sc2 (fun m => (bvals L k).getD (m - (L - k)) (0, 0)) (L - (k + 1)) (k + 1)).getD (0, 0) :: bvals L k
def bval (L i : Nat) : Int × Int := (bvals rest sc sc2 L L).getD i (0, 0)
end

section
variable {rest : Nat → Int} {sc sc2 : Nat → Nat → Int}
theorem bvals_drop {L k : Nat} : ∀ {j : Nat}, (bvals rest sc sc2 L (k + j)).drop j = bvals rest sc sc2 L k
  | 0 => rfl
  | j + 1 => by rw [show k + (j + 1) = (k + j) + 1 by omega, bvals, List.drop_succ_cons, bvals_drop]
theorem bvals_get {L k j : Nat} (h : k ≤ L) : (bvals rest sc sc2 L k).getD j (0, 0) = bval rest sc sc2 L (L - k + j) := by
  have h1 := bvals_drop (rest := rest) (sc := sc) (sc2 := sc2) (L := L) (k := k) (j := L - k)
  rw [show k + (L - k) = L by omega] at h1
  rw [← h1, bval]
  simp only [List.getD_eq_getElem?_getD, List.getElem?_drop]
theorem bacc_congr {bn bn' : Nat → Int × Int} {i : Nat} : ∀ {j : Nat}, bn (i + 1) = bn' (i + 1) → (∀ m, i < m → m ≤ i + j → bn m = bn' m) → bacc rest sc sc2 bn i j = bacc rest sc sc2 bn' i j
  | 0, h, _ => by simp only [bacc, h]
  | j + 1, h0, h => by
    have := bacc_congr (j := j) h0 (fun m h1 h2 => h m h1 (by omega))
    simp only [bacc, this, h (i + 1 + j) (by omega) (by omega)]
theorem bval_last {L : Nat} : bval rest sc sc2 L L = (0, 0) := by
  have := bvals_get (rest := rest) (sc := sc) (sc2 := sc2) (L := L) (k := 0) (j := 0) (by omega)
  simpa [bvals] using this.symm
theorem bval_rec {L i : Nat} (h : i < L) : bval rest sc sc2 L i = (bacc rest sc sc2 (bval rest sc sc2 L) i (L - i)).getD (0, 0) := by
  have h1 := bvals_get (rest := rest) (sc := sc) (sc2 := sc2) (L := L) (k := L - i) (j := 0) (by omega)
  rw [show L - (L - i) + 0 = i by omega] at h1
  rw [← h1]
  obtain ⟨k, hk⟩ : ∃ k, L - i = k + 1 := ⟨L - i - 1, by omega⟩
  rw [hk, bvals]
  simp only [List.getD_cons_zero]
  rw [show L - (k + 1) = i by omega]
  have e : ∀ m, i < m → m ≤ i + (k + 1) → (bvals rest sc sc2 L k).getD (m - (L - k)) (0, 0) = bval rest sc sc2 L m := by
    intro m h1 h2
    rw [bvals_get (by omega)]
    congr 1
    omega
  rw [bacc_congr (e _ (by omega) (by omega)) e]

def InR (M : Int) (p : Int × Int) : Prop := (0 ≤ p.1 ∧ p.1 ≤ M) ∧ 0 ≤ p.2 ∧ p.2 ≤ M
theorem meet_in {M : Int} {p q : Int × Int} (h1 : InR M p) (h2 : InR M q) : InR M (meet p q) := by
  obtain ⟨⟨a1, a2⟩, a3, a4⟩ := h1
  obtain ⟨⟨b1, b2⟩, b3, b4⟩ := h2
  simp only [InR, meet]
  omega
theorem joinR_in {M : Int} {o : Option (Int × Int)} {q : Int × Int} (h1 : ∀ p, o = some p → InR M p) (h2 : InR M q) : ∀ p, joinR o q = some p → InR M p := by
  intro p hp
  cases o with
  | none => simp only [joinR, Option.some.injEq] at hp; subst hp; exact h2
  | some o => simp only [joinR, Option.some.injEq] at hp; subst hp; exact meet_in (h1 o rfl) h2
theorem shift_in {M N k : Int} {p : Int × Int} (h : InR M p) (h0 : 0 ≤ k) (hk : k + M ≤ N) : InR N (shift k p) := by
  obtain ⟨⟨a1, a2⟩, a3, a4⟩ := h
  simp only [InR, shift]
  omega
theorem in_mono {M N : Int} {p : Int × Int} (h : InR M p) (hM : M ≤ N) : InR N p := by
  obtain ⟨⟨a1, a2⟩, a3, a4⟩ := h
  simp only [InR]
  omega

/-- As many feet, as many times what a log can scale. -/
def capB (L i : Nat) : Int := ((L - i : Nat) : Int) * 216000
theorem capB_step {L i m : Nat} (h : i < m) (hm : m ≤ L) : 216000 + capB L m ≤ capB L i := by
  unfold capB
  omega
theorem bacc_in {bn : Nat → Int × Int} {i L : Nat} (hs : ∀ a b, 0 ≤ sc2 a b ∧ sc2 a b ≤ 216000) (hb : ∀ m, i < m → m ≤ L → InR (capB L m) (bn m)) (hi : i < L) : ∀ {j : Nat}, i + j ≤ L → ∀ p, bacc rest sc sc2 bn i j = some p → InR (capB L i) p
  | 0, _ => by
    intro p hp
    simp only [bacc] at hp
    split at hp
    · simp only [Option.some.injEq] at hp
      subst hp
      refine in_mono (hb (i + 1) (by omega) (by omega)) ?_
      have := capB_step (L := L) (i := i) (m := i + 1) (by omega) (by omega)
      omega
    · cases hp
  | j + 1, hj => by
    intro p hp
    have ih := bacc_in hs hb hi (j := j) (by omega)
    simp only [bacc] at hp
    split at hp
    · refine joinR_in ih ?_ p hp
      have := capB_step (L := L) (i := i) (m := i + 1 + j) (by omega) (by omega)
      have := hs i (i + 1 + j)
      exact shift_in (hb (i + 1 + j) (by omega) (by omega)) this.1 (by omega)
    · exact ih p hp
theorem bval_in {L : Nat} (hs : ∀ a b, 0 ≤ sc2 a b ∧ sc2 a b ≤ 216000) : ∀ {k i : Nat}, L - i = k → i ≤ L → InR (capB L i) (bval rest sc sc2 L i) := by
  intro k
  induction k using Nat.strongRecOn with
  | ind k ih =>
    intro i hk hi
    have h0 : InR (capB L i) (0, 0) := by
      have : 0 ≤ capB L i := by unfold capB; omega
      simp only [InR]
      omega
    by_cases h : i < L
    · rw [bval_rec h]
      have := bacc_in (rest := rest) (sc := sc) (bn := bval rest sc sc2 L) hs (fun m h1 h2 => ih (L - m) (by omega) rfl h2) h (j := L - i) (by omega)
      cases hb : bacc rest sc sc2 (bval rest sc sc2 L) i (L - i) with
      | none => exact h0
      | some p => exact this p hb
    · have : i = L := by omega
      subst this
      rw [bval_last]
      exact h0
end

/-- The ends, as they are gathered from logs. -/
def bends (rest : Nat → Int) (sc2 : Nat → Nat → Int) (bn : Nat → Int × Int) (a : Nat) (l : List (Int × Int)) : List (Int × Int) :=
  (if rest a = rest (a + 1) then [bn (a + 1)] else []) ++ l.filterMap fun p => if rest a = p.2 + rest p.1.toNat then some (shift (sc2 a p.1.toNat) (bn p.1.toNat)) else none
theorem bends_snoc {rest : Nat → Int} {sc2 : Nat → Nat → Int} {bn : Nat → Int × Int} {a : Nat} {l : List (Int × Int)} {p : Int × Int} :
    bends rest sc2 bn a (l ++ [p]) = bends rest sc2 bn a l ++ if rest a = p.2 + rest p.1.toNat then [shift (sc2 a p.1.toNat) (bn p.1.toNat)] else [] := by
  unfold bends
  rw [List.filterMap_append, List.append_assoc]
  congr 2
  simp only [List.filterMap_cons, List.filterMap_nil]
  split <;> rename_i h <;> split at h <;> simp_all
theorem bends_len {rest : Nat → Int} {sc2 : Nat → Nat → Int} {bn : Nat → Int × Int} {a : Nat} {l : List (Int × Int)} : (bends rest sc2 bn a l).length ≤ l.length + 1 := by
  unfold bends
  rw [List.length_append]
  have := List.length_filterMap_le (fun p : Int × Int => if rest a = p.2 + rest p.1.toNat then some (shift (sc2 a p.1.toNat) (bn p.1.toNat)) else none) l
  split <;> simp <;> omega
theorem bends_acc {kn : Kn} {rest : Nat → Int} {sc sc2 : Nat → Nat → Int} {bn : Nat → Int × Int} {a : Nat} : ∀ {j : Nat}, (∀ i, i < j → look kn (a, (a : Int) + 1 + i) = sc a (a + 1 + i)) →
    (bends rest sc2 bn a (logsUp kn a j)).foldl joinR none = bacc rest sc sc2 bn a j
  | 0, _ => by
    simp only [bends, logsUp, bacc, List.filterMap_nil, List.append_nil]
    split <;> rfl
  | j + 1, h => by
    have ih := bends_acc (rest := rest) (sc2 := sc2) (bn := bn) (j := j) (fun i hi => h i (by omega))
    have hj := h j (by omega)
    have e : ((a : Int) + 1 + j).toNat = a + 1 + j := by omega
    rw [logsUp, hj]
    by_cases hp : 0 < sc a (a + 1 + j)
    · rw [if_pos hp, bends_snoc, List.foldl_append, ih, bacc]
      simp only [e, hp, true_and]
      split <;> rfl
    · rw [if_neg hp, List.append_nil, ih, bacc, if_neg (by simp [hp])]

theorem foldl_join {l : List (Int × Int)} : ∀ {p : Int × Int}, l.foldl joinR (some p) = some (l.foldl meet p) := by
  induction l with
  | nil => intro p; rfl
  | cons q l ih => intro p; exact ih
theorem meet_self {p : Int × Int} : meet p p = p := by
  simp only [meet, Int.min_self, Int.max_self]
/-- From the first one on, over all. -/
theorem fold_first {e : Int × Int} {l : List (Int × Int)} : (e :: l).foldl joinR none = some ((e :: l).foldl meet e) := by
  rw [List.foldl_cons, List.foldl_cons, meet_self]
  exact foldl_join
end Go.Ab

namespace Go.Ab
section
variable {rest : Nat → Int} {sc sc2 : Nat → Nat → Int} {bn : Nat → Int × Int}
theorem bacc_up {i : Nat} : ∀ {d j : Nat}, (bacc rest sc sc2 bn i j).isSome = true → (bacc rest sc sc2 bn i (j + d)).isSome = true
  | 0, _, h => h
  | d + 1, j, h => by
    have ih := bacc_up (d := d) h
    rw [← Nat.add_assoc, bacc]
    split
    · cases bacc rest sc sc2 bn i (j + d) <;> rfl
    · exact ih
end
/-- Some best cutting goes on from each place. -/
theorem bacc_some {sc sc2 : Nat → Nat → Int} {bn : Nat → Int × Int} {L i : Nat} (h : i < L) : (bacc (Pr sc L) sc sc2 bn i (L - i)).isSome = true := by
  rcases Bv_cases (sc := sc) (L := L) (j := L) h with h1 | ⟨to, h1, h2, h3, h4, h5⟩
  · have : (bacc (Pr sc L) sc sc2 bn i 0).isSome = true := by
      rw [bacc, if_pos (show Pr sc L i = Pr sc L (i + 1) from h1)]; rfl
    have := bacc_up (d := L - i) this
    rwa [Nat.zero_add] at this
  · obtain ⟨k, rfl⟩ : ∃ k, to = i + 1 + k := ⟨to - (i + 1), by omega⟩
    have : (bacc (Pr sc L) sc sc2 bn i (k + 1)).isSome = true := by
      rw [bacc, if_pos ⟨h4, show Pr sc L i = sc i (i + 1 + k) + Pr sc L (i + 1 + k) from h5⟩]
      cases bacc (Pr sc L) sc sc2 bn i k <;> rfl
    have := bacc_up (d := L - i - (k + 1)) this
    rwa [show k + 1 + (L - i - (k + 1)) = L - i by omega] at this
end Go.Ab
