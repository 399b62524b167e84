/- Mills named otherwise: plain. -/
import Derived.Test.YtgaijhpekajflaaUQ
import Derived.Test.YtgaijhpekajflaaUB
set_option linter.unusedVariables false
set_option linter.unusedSimpArgs false
set_option maxHeartbeats 4000000
set_option maxRecDepth 100000
namespace Go.Ab
open Go Go.Proofs

/-- New names, and the old ones of them. -/
structure Nm (N : Nat) (p q : Nat → Nat) : Prop where
  to : ∀ i, i < N → p i < N ∧ q (p i) = i
  fro : ∀ i, i < N → q i < N ∧ p (q i) = i
section
variable {N : Nat} {p q : Nat → Nat}
theorem Nm.symm (h : Nm N p q) : Nm N q p := ⟨h.fro, h.to⟩
theorem Nm.inj (h : Nm N p q) {i j : Nat} (hi : i < N) (hj : j < N) (he : p i = p j) : i = j := by
  rw [← (h.to i hi).2, ← (h.to j hj).2, he]
theorem sumN_list {f : Nat → Int} : ∀ {n : Nat}, sumN f n = ((List.range n).map f).sum
  | 0 => rfl
  | n + 1 => by
    simp only [sumN]
    rw [List.range_succ, List.map_append, List.sum_append, sumN_list]
    simp
theorem sum_perm {α : Type} {f : α → Int} {l m : List α} (h : l.Perm m) : (l.map f).sum = (m.map f).sum := by
  induction h with
  | nil => rfl
  | cons x _ ih => simp [ih]
  | swap x y l => simp; omega
  | trans _ _ ih1 ih2 => rw [ih1, ih2]
theorem sumN_nm (h : Nm N p q) {f : Nat → Int} : sumN (fun i => f (p i)) N = sumN f N := by
  rw [sumN_list, sumN_list]
  have hp : ((List.range N).map p).Perm (List.range N) := by
    rw [List.perm_ext_iff_of_nodup]
    · intro y
      rw [List.mem_map, List.mem_range]
      constructor
      · rintro ⟨i, hi, rfl⟩
        exact (h.to i (List.mem_range.1 hi)).1
      · intro hy
        exact ⟨q y, List.mem_range.2 (h.fro y hy).1, (h.fro y hy).2⟩
    · refine List.pairwise_map.2 (List.Pairwise.imp_of_mem (fun {a b} ha hb hab hpq => hab (h.inj (List.mem_range.1 ha) (List.mem_range.1 hb) hpq)) List.nodup_range)
    · exact List.nodup_range
  have := sum_perm (f := f) hp
  rw [List.map_map] at this
  exact this
theorem sumF_sumN {F : Nat → Int} {s : Nat} : ∀ {m : Nat}, sumF F s m = sumN (fun i => if s.testBit i then F i else 0) m
  | 0 => rfl
  | m + 1 => by simp only [sumF, sumN]; rw [sumF_sumN]
/-- A set, by new names. -/
def setN (p : Nat → Nat) (g : Nat) : Nat → Nat
  | 0 => 0
  | m + 1 => if g.testBit m then setN p g m ||| 2 ^ p m else setN p g m
theorem setN_bit {g y : Nat} : ∀ {m : Nat}, (setN p g m).testBit y = true ↔ ∃ i, i < m ∧ g.testBit i = true ∧ p i = y
  | 0 => by simp [setN]
  | m + 1 => by
    simp only [setN]
    have ih := setN_bit (g := g) (y := y) (m := m)
    by_cases hb : g.testBit m = true
    · rw [if_pos hb, Nat.testBit_or, Bool.or_eq_true, ih, Nat.testBit_two_pow]
      constructor
      · rintro (⟨i, h1, h2⟩ | h)
        · exact ⟨i, by omega, h2⟩
        · exact ⟨m, by omega, hb, of_decide_eq_true h⟩
      · rintro ⟨i, h1, h2, h3⟩
        by_cases hi : i = m
        · subst hi; exact .inr (decide_eq_true h3)
        · exact .inl ⟨i, by omega, h2, h3⟩
    · rw [if_neg hb, ih]
      constructor
      · rintro ⟨i, h1, h2⟩; exact ⟨i, by omega, h2⟩
      · rintro ⟨i, h1, h2, h3⟩
        by_cases hi : i = m
        · subst hi; exact absurd h2 hb
        · exact ⟨i, by omega, h2, h3⟩
theorem setN_at (h : Nm N p q) {g i : Nat} (hi : i < N) : (setN p g N).testBit (p i) = g.testBit i := by
  rw [Bool.eq_iff_iff, setN_bit]
  constructor
  · rintro ⟨j, h1, h2, h3⟩
    rw [← h.inj h1 hi h3]; exact h2
  · intro hb; exact ⟨i, hi, hb, rfl⟩
theorem setN_lt (h : Nm N p q) {g : Nat} : setN p g N < 2 ^ N := by
  refine Nat.lt_pow_two_of_testBit _ fun y hy => ?_
  by_cases hb : (setN p g N).testBit y = true
  · obtain ⟨i, h1, -, rfl⟩ := setN_bit.1 hb
    have := (h.to i h1).1
    omega
  · simpa using hb
theorem sumF_setN (h : Nm N p q) {F F' : Nat → Int} (hF : ∀ i, i < N → F' (p i) = F i) {g : Nat} : sumF F' (setN p g N) N = sumF F g N := by
  rw [sumF_sumN, sumF_sumN, ← sumN_nm h]
  refine sumN_congr fun i hi => ?_
  rw [setN_at h hi, hF i hi]
theorem setN_ne (h : Nm N p q) {g : Nat} (hg : g < 2 ^ N) (h0 : g ≠ 0) : setN p g N ≠ 0 := by
  intro hz
  obtain ⟨i, hi⟩ := Nat.exists_testBit_of_ne_zero h0
  have hiN : i < N := by
    by_cases hn : i < N
    · exact hn
    · rw [Nat.testBit_lt_two_pow (Nat.lt_of_lt_of_le hg (Nat.pow_le_pow_right (by omega) (by omega)))] at hi
      cases hi
  have := setN_at h (g := g) hiN
  rw [hz, hi] at this
  simp at this
theorem top_le_nm {D D' : List Db} (hN1 : 1 ≤ N) (hN : N ≤ 10) (hD : DbOK N 1000000 D) (h : Nm N p q) (hb : ∀ i, i < N → balF D' (p i) = balF D i) : topP N D ≤ topP N D' := by
  obtain ⟨o, -, hch⟩ := fin_ex _ _ _ (Chain.start (F := balF D) (N := N) (bal_all hD rfl))
  have h1 := chain_top hch
  have := parts_le (F := balF D') (N := N) (G := o.map fun g => setN p g N) (fun g hg => ?_) (fun m hm => ?_)
  · rw [List.length_map] at this
    unfold topP at *
    omega
  · obtain ⟨g', hg', rfl⟩ := List.mem_map.1 hg
    have := hch.og g' hg'
    refine ⟨setN_lt h, ev_iff.2 ⟨setN_ne h this.2.1 (by omega), ?_⟩⟩
    rw [sumF_setN h hb]
    exact this.2.2
  · have a := hch.one (q m) (h.fro m hm).1
    unfold cntB at *
    rw [List.countP_map]
    have e : List.countP ((fun g => g.testBit m) ∘ fun g => setN p g N) o = List.countP (fun g => g.testBit (q m)) o := by
      refine List.countP_congr fun g _ => ?_
      have := setN_at h (g := g) (h.fro m hm).1
      rw [(h.fro m hm).2] at this
      simp only [Function.comp]
      rw [this]
    rw [e, a]
    simp
theorem top_nm {D D' : List Db} (hN1 : 1 ≤ N) (hN : N ≤ 10) (hD : DbOK N 1000000 D) (hD' : DbOK N 1000000 D') (h : Nm N p q) (hb : ∀ i, i < N → balF D' (p i) = balF D i) : topP N D' = topP N D := by
  have h1 := top_le_nm hN1 hN hD h hb
  have h2 := top_le_nm (D' := D) hN1 hN hD' h.symm (fun i hi => by rw [← hb (q i) (h.fro i hi).1, (h.fro i hi).2])
  omega
/-! ### Walks -/
theorem wk_nm {ed ed' : Nat → Nat → Bool} (hlt : ∀ a b, ed a b = true → a < N ∧ b < N) (he : ∀ a b, a < N → b < N → ed a b = true → ed' (p a) (p b) = true) {n a v : Nat} (hw : Wk ed n a v) : Wk ed' n (p a) (p v) := by
  induction hw with
  | nil => exact .nil
  | snoc _ h ih =>
    obtain ⟨h1, h2⟩ := hlt _ _ h
    exact .snoc ih (he _ _ h1 h2 h)
theorem short_nm {ed ed' : Nat → Nat → Bool} (h : Nm N p q) (hlt : ∀ a b, ed a b = true → a < N ∧ b < N) (hlt' : ∀ a b, ed' a b = true → a < N ∧ b < N) (he : ∀ a b, a < N → b < N → ed' (p a) (p b) = ed a b) : (circF ed' N).length = (circF ed N).length := by
  have hs := (circ_spec (fun a b h => (hlt a b h).2)).short
  have hs' := (circ_spec (fun a b h => (hlt' a b h).2)).short
  refine hs'.uniq ⟨hs.le, fun h0 => ?_, fun f n hf h1 h2 hw => ?_⟩
  · obtain ⟨f, hf, hw⟩ := hs.at_ h0
    exact ⟨p f, (h.to f hf).1, wk_nm hlt (fun a b ha hb hab => by rw [he a b ha hb]; exact hab) hw⟩
  · refine hs.least (q f) n (h.fro f hf).1 h1 h2 (wk_nm (p := q) hlt' (fun a b ha hb hab => ?_) hw)
    have := he (q a) (q b) (h.fro a ha).1 (h.fro b hb).1
    rw [(h.fro a ha).2, (h.fro b hb).2] at this
    rw [← this]; exact hab
end
/-! ### The renamed book -/
def nmI (l : List Nat) (i : Int) : Int := ((l.getD i.toNat 0 : Nat) : Int)
def renD (l : List Nat) (D : List Db) : List Db := D.map fun d => (nmI l d.1, nmI l d.2.1, d.2.2)
/-- A list of new names. -/
structure Names (N : Nat) (l : List Nat) : Prop where
  len : l.length = N
  nd : l.Nodup
  lt : ∀ x ∈ l, x < N
theorem Names.range {N : Nat} : Names N (List.range N) := ⟨by simp, List.nodup_range, fun x hx => List.mem_range.1 hx⟩
theorem Names.get {N : Nat} {l : List Nat} (h : Names N l) {i : Nat} (hi : i < N) : l[i]? = some (l.getD i 0) ∧ l.getD i 0 < N := by
  have hl : i < l.length := by rw [h.len]; exact hi
  have e : l[i]? = some (l.getD i 0) := by rw [List.getD_eq_getElem?_getD, List.getElem?_eq_getElem hl]; rfl
  exact ⟨e, h.lt _ (List.mem_of_getElem? e)⟩
theorem Names.inj {N : Nat} {l : List Nat} (h : Names N l) {i j : Nat} (hi : i < N) (hj : j < N) (he : l.getD i 0 = l.getD j 0) : i = j := by
  have hi' : i < l.length := by rw [h.len]; exact hi
  have hj' : j < l.length := by rw [h.len]; exact hj
  rw [List.getD_eq_getElem?_getD, List.getD_eq_getElem?_getD, List.getElem?_eq_getElem hi', List.getElem?_eq_getElem hj'] at he
  have he : l[i] = l[j] := he
  rcases Nat.lt_trichotomy i j with h1 | h1 | h1
  · exact absurd he (List.pairwise_iff_getElem.1 h.nd i j hi' hj' h1)
  · exact h1
  · exact absurd he.symm (List.pairwise_iff_getElem.1 h.nd j i hj' hi' h1)
theorem Names.nm {N : Nat} {l : List Nat} (h : Names N l) : ∃ q, Nm N (fun i => l.getD i 0) q := by
  have hs : ∀ y, y < N → ∃ i, i < N ∧ l.getD i 0 = y := fun y hy => by
    have hm : y ∈ l := by
      by_cases hm : y ∈ l
      · exact hm
      · exfalso
        have := nodup_leN (N := N) (l := y :: l) (List.nodup_cons.2 ⟨hm, h.nd⟩) (fun x hx => by
          rcases List.mem_cons.1 hx with rfl | hx
          · exact hy
          · exact h.lt x hx)
        have h2 := h.len
        simp at this
        omega
    obtain ⟨i, hi⟩ := List.mem_iff_getElem?.1 hm
    have hl := (List.getElem?_eq_some_iff.1 hi).1
    refine ⟨i, by rw [← h.len]; exact hl, ?_⟩
    rw [List.getD_eq_getElem?_getD, hi]; rfl
  classical
  refine ⟨fun y => if hy : ∃ i, i < N ∧ l.getD i 0 = y then Classical.choose hy else 0, ⟨fun i hi => ⟨(h.get hi).2, ?_⟩, fun y hy => ?_⟩⟩
  · have hex : ∃ j, j < N ∧ l.getD j 0 = l.getD i 0 := ⟨i, hi, rfl⟩
    rw [dif_pos hex]
    have := Classical.choose_spec hex
    exact h.inj this.1 hi this.2
  · rw [dif_pos (hs y hy)]
    exact Classical.choose_spec (hs y hy)
theorem Names.swap {N : Nat} {l : List Nat} (h : Names N l) {c d : Nat} (hc : c < N) (hd : d < N) : Names N ((l.set c (l.getD d 0)).set d (l.getD c 0)) := by
  have hc' : c < l.length := by rw [h.len]; exact hc
  have hd' : d < l.length := by rw [h.len]; exact hd
  have e1 : l.getD d 0 = l[d] := by rw [List.getD_eq_getElem?_getD, List.getElem?_eq_getElem hd']; rfl
  have e2 : l.getD c 0 = l[c] := by rw [List.getD_eq_getElem?_getD, List.getElem?_eq_getElem hc']; rfl
  rw [e1, e2]
  have hp : ((l.set c l[d]).set d l[c]).Perm l := List.set_set_perm hc' hd'
  exact ⟨by simp [h.len], hp.nodup_iff.2 h.nd, fun x hx => h.lt x (hp.mem_iff.1 hx)⟩
section
variable {N : Nat} {l : List Nat} {D : List Db}
theorem renD_ok (h : Names N l) (hD : DbOK N 1000000 D) : DbOK N 1000000 (renD l D) := by
  intro d hd
  obtain ⟨e, he, rfl⟩ := List.mem_map.1 hd
  have h1 := hD e he
  have h2 := (h.get (i := e.1.toNat) (by omega)).2
  have h3 := (h.get (i := e.2.1.toNat) (by omega)).2
  have h4 : l.getD e.1.toNat 0 ≠ l.getD e.2.1.toNat 0 := fun h5 => by have := h.inj (by omega) (by omega) h5; omega
  simp only [nmI]
  omega
theorem balF_ren (h : Names N l) (hD : DbOK N 1000000 D) {i : Nat} (hi : i < N) : balF (renD l D) (l.getD i 0) = balF D i := by
  revert hD
  refine snoc_ind (P := fun D => DbOK N 1000000 D → balF (renD l D) (l.getD i 0) = balF D i) (fun _ => rfl) ?_ D
  intro D d ih hD
  have hd := hD d (by simp)
  have e : renD l (D ++ [d]) = renD l D ++ [(nmI l d.1, nmI l d.2.1, d.2.2)] := by simp [renD]
  rw [e, balF_snoc, balF_snoc, ih (fun x hx => hD x (List.mem_append_left _ hx))]
  congr 1
  unfold dlt nmI
  simp only
  have e1 : (((l.getD d.2.1.toNat 0 : Nat) : Int) = ((l.getD i 0 : Nat) : Int)) = (d.2.1 = (i : Int)) := by
    rw [eq_iff_iff]
    constructor
    · intro h1
      have := h.inj (i := d.2.1.toNat) (j := i) (by omega) hi (by omega)
      omega
    · intro h1; rw [h1, Int.toNat_natCast]
  have e2 : (((l.getD d.1.toNat 0 : Nat) : Int) = ((l.getD i 0 : Nat) : Int)) = (d.1 = (i : Int)) := by
    rw [eq_iff_iff]
    constructor
    · intro h1
      have := h.inj (i := d.1.toNat) (j := i) (by omega) hi (by omega)
      omega
    · intro h1; rw [h1, Int.toNat_natCast]
  simp only [e1, e2]
theorem balF_rev {i : Nat} : ∀ {D : List Db}, balF D.reverse i = balF D i
  | [] => rfl
  | d :: D => by
    rw [List.reverse_cons, balF_app, balF_rev]
    have : balF (d :: D) i = balF [d] i + balF D i := balF_app (A := [d])
    omega
theorem owB_ren (h : Names N l) (hD : DbOK N 1000000 D) {a b : Nat} (ha : a < N) (hb : b < N) : owB (renD l D).reverse (l.getD a 0) (l.getD b 0) = owB D a b := by
  rw [Bool.eq_iff_iff, owB_iff, owB_iff]
  constructor
  · rintro ⟨d, hd, h1, h2⟩
    rw [List.mem_reverse] at hd
    obtain ⟨e, he, rfl⟩ := List.mem_map.1 hd
    have := hD e he
    simp only [nmI] at h1 h2
    have h3 := h.inj (i := e.1.toNat) (j := a) (by omega) ha (by omega)
    have h4 := h.inj (i := e.2.1.toNat) (j := b) (by omega) hb (by omega)
    exact ⟨e, he, by omega, by omega⟩
  · rintro ⟨e, he, h1, h2⟩
    refine ⟨_, List.mem_reverse.2 (List.mem_map.2 ⟨e, he, rfl⟩), ?_, ?_⟩
    · simp only [nmI, h1, Int.toNat_natCast]
    · simp only [nmI, h2, Int.toNat_natCast]
theorem owB_lt2 {M : Int} (hD : DbOK N M D) : ∀ a b, owB D a b = true → a < N ∧ b < N := by
  intro a b h
  obtain ⟨d, hd, h1, h2⟩ := owB_iff.1 h
  have := hD d hd
  omega
/-- All that the law says of a renamed book. -/
theorem ren_all (hc : checkBook N D = 0) (h : Names N l) : checkBook N (renD l D).reverse = 0 ∧ topP N (renD l D).reverse = topP N D ∧ (∀ i, i < N → balF (renD l D).reverse (l.getD i 0) = balF D i) ∧
    (circF (owB (renD l D).reverse) N).length = (circF (owB D) N).length := by
  obtain ⟨⟨n1, n2⟩, hlen, hD, hnd⟩ := book_ok hc
  have hD' : DbOK N 1000000 (renD l D).reverse := fun d hd => renD_ok h hD d (List.mem_reverse.1 hd)
  obtain ⟨q, hq⟩ := h.nm
  have hb : ∀ i, i < N → balF (renD l D).reverse (l.getD i 0) = balF D i := fun i hi => by rw [balF_rev]; exact balF_ren h hD hi
  refine ⟨book_mk n1 n2 (by simpa [renD] using hlen) hD' ?_, top_nm (by omega) (by omega) hD hD' hq hb, hb, short_nm hq (owB_lt2 hD) (owB_lt2 hD') (fun a b ha hb => owB_ren h hD ha hb)⟩
  rw [List.map_reverse]
  refine (List.reverse_perm _).nodup_iff.2 ?_
  unfold renD
  rw [List.map_map]
  refine List.pairwise_map.2 (List.Pairwise.imp_of_mem (fun {a b} ha hb hab hpr => hab ?_) (List.pairwise_map.1 hnd))
  have h1 := hD a ha
  have h2 := hD b hb
  simp [pr, nmI] at hpr
  have h3 := h.inj (i := a.1.toNat) (j := b.1.toNat) (by omega) (by omega) (by have := hpr.1; simp; omega)
  have h4 := h.inj (i := a.2.1.toNat) (j := b.2.1.toNat) (by omega) (by omega) (by have := hpr.2; simp; omega)
  simp [pr]
  omega
end
end Go.Ab
