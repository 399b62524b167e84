/- Laws on orders and bounds: plain. -/
import Derived.Test.YtkcfknlpdfgjnaaMJ
set_option linter.unusedVariables false
set_option linter.unusedSimpArgs false
set_option maxHeartbeats 4000000
namespace Go.Ab
open Go Go.Proofs

def sumI : List Int → Int
  | [] => 0
  | x :: l => x + sumI l
theorem sumI_perm {l m : List Int} (h : l.Perm m) : sumI l = sumI m := by
  induction h with
  | nil => rfl
  | cons x _ ih => simp only [sumI, ih]
  | swap x y l => simp only [sumI]; omega
  | trans _ _ a b => rw [a, b]
theorem sumI_append : ∀ {l m : List Int}, sumI (l ++ m) = sumI l + sumI m
  | [], m => by simp [sumI]
  | x :: l, m => by rw [List.cons_append, sumI, sumI_append, sumI]; omega
theorem sumI_at {g : Int → Int} {o : List Int} : ∀ {j : Nat}, j ≤ o.length → sumI ((o.take j).map g) = sumN (fun i => g (o.getD i 0)) j
  | 0, _ => rfl
  | j + 1, h => by
    rw [List.take_add_one, o_some (by omega), List.map_append, sumI_append, sumI_at (by omega)]
    simp [sumI, sumN]
/-- A raft's share of a bound. -/
def trm (lock s : Int) (p : Int × Int) : Int := if s ≤ sA lock p then sB lock p else min (sA lock p) (sB lock p)
theorem bound_sum {T : Tw} {lock s : Int} : (boundF T lock s).1 = s + sumI (T.map (trm lock s)) := by
  have : ∀ (T : Tw) (acc : Int × Bool), (T.foldl (bstep lock s) acc).1 = acc.1 + sumI (T.map (trm lock s)) := by
    intro T
    induction T with
    | nil => intro acc; simp [sumI]
    | cons p T ih =>
      intro acc
      rw [List.foldl_cons, ih, List.map_cons, sumI]
      unfold bstep trm
      split <;> simp only <;> omega
  exact this T _
theorem tow_map {T : Tw} : T = (upTo T.length).map (raft T) := by
  apply List.ext_getElem?
  intro i
  rw [List.getElem?_map]
  by_cases h : i < T.length
  · rw [upTo_get h]
    have := (raft_get (T := T) (x := (i : Int)) (by omega) (by omega)).1
    simpa using this
  · rw [List.getElem?_eq_none (by omega), List.getElem?_eq_none (by simp; omega)]
    rfl
/-- A bound as a sum along an order. -/
theorem bound_ord {T : Tw} {lock s : Int} {o : List Int} (ho : o.Perm (upTo T.length)) : (boundF T lock s).1 = s + sumN (fun i => trm lock s (raft T (o.getD i 0))) o.length := by
  have h1 : T.map (trm lock s) = (upTo T.length).map (fun x => trm lock s (raft T x)) := by
    conv => lhs; rw [tow_map (T := T)]
    rw [List.map_map]
    rfl
  have h2 := sumI_perm (ho.map (fun x => trm lock s (raft T x)))
  have h3 := sumI_at (g := fun x => trm lock s (raft T x)) (o := o) (Nat.le_refl _)
  rw [List.take_length] at h3
  rw [bound_sum, h1, ← h2, h3]
theorem ok_ord {T : Tw} {lock s : Int} {o : List Int} (ho : o.Perm (upTo T.length)) (h : (boundF T lock s).2 = true) : ∃ i, i < o.length ∧ s ≤ sA lock (raft T (o.getD i 0)) := by
  obtain ⟨p, hp, hs⟩ := ok_iff.1 h
  rw [tow_map (T := T)] at hp
  obtain ⟨x, hx, rfl⟩ := List.mem_map.1 hp
  rw [← ho.mem_iff] at hx
  obtain ⟨i, hi, e⟩ := List.mem_iff_getElem.1 hx
  have : o.getD i 0 = x := by rw [List.getD_eq_getElem?_getD, List.getElem?_eq_getElem hi, e]; rfl
  exact ⟨i, hi, by rw [this]; exact hs⟩
/-- No order has a time that is less than a bound. -/
theorem bound_time {T : Tw} {R : Nat} {lock s : Int} {o : List Int} (hb : TB T) (hk : lock = 1 ∨ lock = 2) (ho : o.Perm (upTo T.length)) (h : (boundF T lock s).2 = true) : (boundF T lock s).1 ≤ timeR T R o := by
  obtain ⟨L, E, hr, e⟩ := time_runs (T := T) (R := R) (o := o) hb
  rw [e, bound_ord ho]
  obtain ⟨q, hq, hs⟩ := ok_ord ho h
  have ab := fun i => raft_tb hb (o.getD i 0)
  rcases hk with rfl | rfl
  · have e1 : ∀ p, sA 1 p = p.1 := fun p => rfl
    have e2 : ∀ p, sB 1 p = p.2 := fun p => rfl
    rcases first_ge (f := oA T o) (s := s) (j := o.length) with ⟨p, p1, p2, p3⟩ | hno
    · refine hr.bound p1 (fun i hi => ?_) ?_ (fun i hi h2 => ?_)
      · have := p3 i hi
        simp only [trm, e1, e2, oA] at *
        rw [if_neg (by omega)]; omega
      · simp only [trm, e1, e2, oA, oB] at *
        rw [if_pos p2]; omega
      · simp only [trm, e1, e2, oA, oB] at *
        split <;> omega
    · exfalso
      have := hno q hq
      simp only [e1, oA] at *
      omega
  · have e1 : ∀ p, sA 2 p = p.2 := fun p => rfl
    have e2 : ∀ p, sB 2 p = p.1 := fun p => rfl
    rcases last_ge (f := oB T o) (s := s) (j := o.length) with ⟨p, p1, p2, p3⟩ | hno
    · refine hr.bound p1 (fun i hi => ?_) ?_ (fun i hi h2 => ?_)
      · simp only [trm, e1, e2, oA, oB] at *
        split <;> omega
      · simp only [trm, e1, e2, oA, oB] at *
        rw [if_pos p2]; omega
      · have := p3 i hi h2
        simp only [trm, e1, e2, oA, oB] at *
        rw [if_neg (by omega)]; omega
    · exfalso
      have := hno q hq
      simp only [e1, oB] at *
      omega

/-! ### The rule's order -/
theorem insB_perm {lt : Int → Int → Bool} {l : List Int} {x : Int} : (insB lt l x).Perm (l ++ [x]) := by
  have : ∀ l : List Int, (insV lt x l).Perm (x :: l) := by
    intro l
    induction l with
    | nil => exact .refl _
    | cons y r ih =>
      rw [insV]
      split
      · exact (ih.cons y).trans (.swap x y r)
      · exact .refl _
  unfold insB
  refine (List.reverse_perm _).trans ((this _).trans ?_)
  exact ((List.reverse_perm l).cons x).trans (List.perm_append_comm (l₁ := [x]) (l₂ := l))
theorem sortB_perm {lt : Int → Int → Bool} {l : List Int} : (sortB lt l).Perm l := by
  have : ∀ (l acc : List Int), (l.foldl (insB lt) acc).Perm (acc ++ l) := by
    intro l
    induction l with
    | nil => intro acc; simp
    | cons x l ih =>
      intro acc
      rw [List.foldl_cons]
      refine (ih _).trans ?_
      have := (insB_perm (lt := lt) (l := acc) (x := x)).append_right l
      simpa using this
  exact this l []
theorem insB_sorted {lt : Int → Int → Bool} {k : Int → Int} (hk : ∀ a b, lt a b = decide (k a < k b)) {l : List Int} {x : Int} (h : l.Pairwise (fun a b => k a ≤ k b)) : (insB lt l x).Pairwise (fun a b => k a ≤ k b) := by
  have mem : ∀ {y : Int} (l : List Int), y ∈ insV lt x l → y = x ∨ y ∈ l := by
    intro y l
    induction l with
    | nil => intro h; simpa [insV] using h
    | cons z r ih =>
      rw [insV]
      split
      · intro h
        rcases List.mem_cons.1 h with h | h
        · exact .inr (by simp [h])
        · rcases ih h with h | h
          · exact .inl h
          · exact .inr (by simp [h])
      · intro h; simpa using h
  have : ∀ l : List Int, l.Pairwise (fun a b => k b ≤ k a) → (insV lt x l).Pairwise (fun a b => k b ≤ k a) := by
    intro l
    induction l with
    | nil => intro _; simp [insV]
    | cons y r ih =>
      intro h
      obtain ⟨h1, h2⟩ := List.pairwise_cons.1 h
      rw [insV]
      split
      · rename_i hlt
        rw [hk] at hlt
        have hlt := of_decide_eq_true hlt
        refine List.pairwise_cons.2 ⟨fun z hz => ?_, ih h2⟩
        rcases mem _ hz with rfl | hz
        · omega
        · exact h1 z hz
      · rename_i hlt
        rw [hk] at hlt
        have hlt : ¬ k x < k y := fun h => hlt (by simpa using h)
        refine List.pairwise_cons.2 ⟨fun z hz => ?_, h⟩
        rcases List.mem_cons.1 hz with rfl | hz
        · omega
        · have := h1 z hz; omega
  unfold insB
  rw [List.pairwise_reverse]
  exact this _ (List.pairwise_reverse.2 h)
theorem sortB_sorted {lt : Int → Int → Bool} {k : Int → Int} (hk : ∀ a b, lt a b = decide (k a < k b)) {l : List Int} : (sortB lt l).Pairwise (fun a b => k a ≤ k b) := by
  have : ∀ (l acc : List Int), acc.Pairwise (fun a b => k a ≤ k b) → (l.foldl (insB lt) acc).Pairwise (fun a b => k a ≤ k b) := by
    intro l
    induction l with
    | nil => intro acc h; exact h
    | cons x l ih => intro acc h; exact ih _ (insB_sorted hk h)
  exact this l [] List.Pairwise.nil
theorem ruleO_perm {T : Tw} : (ruleO T).Perm (upTo T.length) := sortB_perm
/-- One raft before another one, by the rule. -/
def befR (T : Tw) (a b : Int) : Prop := if upP T a = true then (upP T b = true → (raft T a).1 ≤ (raft T b).1) else upP T b = false ∧ (raft T b).2 ≤ (raft T a).2
theorem ruleO_sorted {T : Tw} : (ruleO T).Pairwise (befR T) := by
  rw [rule_split]
  have u : ∀ x ∈ sortB (ltA T) (upsL T T.length), upP T x = true := fun x hx => by
    have := sortB_mem.1 hx
    simp only [upsL, List.mem_filter] at this
    exact this.2
  have d : ∀ x ∈ sortB (ltB T) (dnsL T T.length), upP T x = false := fun x hx => by
    have := sortB_mem.1 hx
    simp only [dnsL, List.mem_filter] at this
    simpa using this.2
  have s1 := sortB_sorted (lt := ltA T) (k := fun x => (raft T x).1) (fun a b => rfl) (l := upsL T T.length)
  have s2 := sortB_sorted (lt := ltB T) (k := fun x => - (raft T x).2) (fun a b => by simp only [ltB]; congr 1; rw [eq_iff_iff]; omega) (l := dnsL T T.length)
  refine List.pairwise_append.2 ⟨?_, ?_, ?_⟩
  · refine List.Pairwise.imp_of_mem ?_ s1
    intro a b ha hb h
    unfold befR
    rw [if_pos (u a ha)]
    exact fun _ => h
  · refine List.Pairwise.imp_of_mem ?_ s2
    intro a b ha hb h
    unfold befR
    rw [if_neg (by rw [d a ha]; simp)]
    exact ⟨d b hb, by omega⟩
  · intro a ha b hb
    unfold befR
    rw [if_pos (u a ha)]
    intro h
    rw [d b hb] at h
    cases h
/-- With room for all the rule's order has the time of a bound. -/
theorem rule_time {T : Tw} {R : Nat} (hb : TB T) (hn : 1 ≤ T.length) (hR : T.length ≤ R + 1) : ∃ k s, (k = 1 ∨ k = 2) ∧ 0 ≤ s ∧ s ≤ 1000 ∧ (boundF T k s).2 = true ∧ timeR T R (ruleO T) ≤ (boundF T k s).1 := by
  have hp := ruleO_perm (T := T)
  have hs := ruleO_sorted (T := T)
  generalize ruleO T = o at *
  have hl : o.length = T.length := by rw [hp.length_eq, upTo_len]
  obtain ⟨L, E, hr, e⟩ := time_runs (T := T) (R := R) (o := o) hb
  obtain ⟨p, p1, p2⟩ := hr.path (by omega) (by omega)
  rw [e, p2]
  have hox : ∀ i, i < o.length → raft T (o.getD i 0) ∈ T := by
    intro i hi
    have := hp.mem_iff.1 (List.mem_of_getElem? (o_some hi))
    obtain ⟨h0, h1⟩ := upTo_mem.1 this
    exact (raft_get h0 h1).2
  have ab := fun i => raft_tb hb (o.getD i 0)
  have hs' : ∀ i j, i < j → j < o.length → befR T (o.getD i 0) (o.getD j 0) := by
    intro i j h1 h2
    have := List.pairwise_iff_getElem.1 hs i j (by omega) h2 h1
    rw [List.getD_eq_getElem?_getD, List.getD_eq_getElem?_getD, List.getElem?_eq_getElem h2, List.getElem?_eq_getElem (show i < o.length by omega)]
    exact this
  have e1 : ∀ p, sA 1 p = p.1 := fun p => rfl
  have e2 : ∀ p, sB 1 p = p.2 := fun p => rfl
  have e3 : ∀ p, sA 2 p = p.2 := fun p => rfl
  have e4 : ∀ p, sB 2 p = p.1 := fun p => rfl
  have up : ∀ x, upP T x = true ↔ (raft T x).1 ≤ (raft T x).2 := fun x => by simp [upP]
  have dn : ∀ x, upP T x = false ↔ (raft T x).2 < (raft T x).1 := fun x => by simp [upP]
  by_cases hup : upP T (o.getD p 0) = true
  · refine ⟨1, oA T o p, .inl rfl, (ab p).1.1, (ab p).1.2, ok_iff.2 ⟨_, hox p p1, by rw [e1]; exact Int.le_refl _⟩, ?_⟩
    rw [bound_ord hp]
    have q1 := sumN_le (f := oA T o) (g := fun i => trm 1 (oA T o p) (raft T (o.getD i 0))) (p := 0) (m := p) (by omega) (by
      intro i _ hi
      have := hs' i p hi p1
      have a := ab i
      unfold befR at this
      split at this
      · rename_i hi2
        have := this hup
        have := (up _).1 hi2
        simp only [trm, e1, e2, oA] at *
        split <;> omega
      · rw [hup] at this
        cases this.1)
    have q2 := sumN_le (f := oB T o) (g := fun i => trm 1 (oA T o p) (raft T (o.getD i 0))) (p := p) (m := o.length) (by omega) (by
      intro i hi hi2
      have a := ab i
      by_cases hip : i = p
      · subst hip
        simp only [trm, e1, e2, oA, oB] at *
        split <;> omega
      have := hs' p i (by omega) hi2
      unfold befR at this
      rw [if_pos hup] at this
      cases hu : upP T (o.getD i 0) with
      | true =>
        have := this hu
        simp only [trm, e1, e2, oA, oB] at *
        split <;> omega
      | false =>
        have := (dn _).1 hu
        simp only [trm, e1, e2, oA, oB] at *
        split <;> omega)
    simp only [sumN] at *
    omega
  · have hup : upP T (o.getD p 0) = false := by simpa using hup
    refine ⟨2, oB T o p, .inr rfl, (ab p).2.1, (ab p).2.2, ok_iff.2 ⟨_, hox p p1, by rw [e3]; exact Int.le_refl _⟩, ?_⟩
    rw [bound_ord hp]
    have q1 := sumN_le (f := oA T o) (g := fun i => trm 2 (oB T o p) (raft T (o.getD i 0))) (p := 0) (m := p + 1) (by omega) (by
      intro i _ hi
      have a := ab i
      by_cases hip : i = p
      · subst hip
        simp only [trm, e3, e4, oA, oB] at *
        split <;> omega
      have := hs' i p (by omega) p1
      unfold befR at this
      split at this
      · rename_i hi2
        have := (up _).1 hi2
        simp only [trm, e3, e4, oA, oB] at *
        split <;> omega
      · rename_i hi2
        have hi2 : upP T (o.getD i 0) = false := by simpa using hi2
        have := (dn _).1 hi2
        simp only [trm, e3, e4, oA, oB] at *
        split <;> omega)
    have q2 := sumN_le (f := oB T o) (g := fun i => trm 2 (oB T o p) (raft T (o.getD i 0))) (p := p + 1) (m := o.length) (by omega) (by
      intro i hi hi2
      have a := ab i
      have := hs' p i (by omega) hi2
      unfold befR at this
      rw [if_neg (by rw [hup]; simp)] at this
      have h2 := (dn _).1 this.1
      simp only [trm, e3, e4, oA, oB] at *
      split <;> omega)
    simp only [sumN] at *
    omega
theorem perm_isOrd {n : Nat} {o : List Int} (h : o.Perm (upTo n)) : isOrd n o = true := by
  have hl : o.length = n := by rw [h.length_eq, upTo_len]
  refine decide_eq_true ⟨hl, fun x hx => upTo_mem.1 (h.mem_iff.1 hx), ?_⟩
  rw [h.nodup_iff]
  unfold upTo
  refine List.Pairwise.map _ (fun a b hab h => hab ?_) (List.nodup_range (n := n))
  omega
end Go.Ab
