/- The library's sort by pattern-defeating quicksort: it sorts. -/
import Derived.Test.YtgndegccjhdmmaaGreatKD
import Derived.Test.YtgndegccjhdmmaaGreatKG
import Derived.Test.YtgndegccjhdmmaaGreatKJ
set_option linter.unusedVariables false
set_option linter.unusedSimpArgs false
set_option maxHeartbeats 4000000
set_option maxRecDepth 100000
namespace Go.Ab
open Go Go.Proofs

section
variable {cv : V} {D : V → Prop} {lt : V → V → Bool}
/-- All is in order but within a range. -/
def Out (lt : V → V → Bool) (a b a' b' : Nat) (G : Nat → V) : Prop := ∀ p q, a ≤ p → p < q → q < b → (p < a' ∨ b' ≤ q) → lt (G q) (G p) = false
theorem Sw.src' {a b : Nat} {G H : Nat → V} (hs : Sw a b G H) (k : Nat) : ∃ k', H k = G k' ∧ ((a ≤ k ∧ k < b ∧ a ≤ k' ∧ k' < b) ∨ k' = k ∧ (k < a ∨ b ≤ k)) := by
  by_cases hk : a ≤ k ∧ k < b
  · obtain ⟨k', k1, k2, e⟩ := hs.src hk.1 hk.2
    exact ⟨k', e, .inl ⟨hk.1, hk.2, k1, k2⟩⟩
  · exact ⟨k, hs.out (by omega), .inr ⟨rfl, by omega⟩⟩
theorem Out.sw {a b a' b' : Nat} {G H : Nat → V} (h : Out lt a b a' b' G) (ha : a ≤ a') (hb : b' ≤ b) (hs : Sw a' b' G H) : Out lt a b a' b' H := by
  intro p q h1 h2 h3 h4
  obtain ⟨p', ep, hp⟩ := hs.src' p
  obtain ⟨q', eq, hq⟩ := hs.src' q
  rw [ep, eq]
  exact h p' q' (by omega) (by omega) (by omega) (by omega)
theorem Out.fin {a b a' b' : Nat} {G H : Nat → V} (h : Out lt a b a' b' G) (ha : a ≤ a') (hb : b' ≤ b) (hs : Sw a' b' G H) (hso : Srt lt a' b' H) : Srt lt a b H := by
  intro p q h1 h2 h3
  by_cases hpq : p < a' ∨ b' ≤ q
  · exact h.sw ha hb hs p q h1 h2 h3 hpq
  · exact hso p q (by omega) h2 (by omega)
theorem Out.left {a b a' b' : Nat} {F G : Nat → V} (h : Out lt a b a' b' G) (ha : a ≤ a') (hab : a' < b') (hb : b' ≤ b) (hs : Sw a b F G) (hl : a = 0 ∨ ∀ k, a ≤ k → k < b → lt (F k) (F (a - 1)) = false) : a' = 0 ∨ ∀ k, a' ≤ k → k < b' → lt (G k) (G (a' - 1)) = false := by
  by_cases he : a' = a
  · rcases hl with h0 | hl
    · exact .inl (by omega)
    · by_cases ha0 : a = 0
      · exact .inl (by omega)
      · refine .inr fun k h1 h2 => ?_
        rw [he, hs.out (k := a - 1) (by omega)]
        exact hs.all (p := fun x => lt x (F (a - 1)) = false) hl (by omega) (by omega)
  · exact .inr fun k h1 h2 => h (a' - 1) k (by omega) (by omega) (by omega) (.inl (by omega))
/-- After a partition, and the sort of its lower part. -/
theorem Out.low (hcmp : CmpOK cv D lt) {a b a' b' mid : Nat} {G G' H : Nat → V} (hD : ∀ k, k < b → D (H k)) (h : Out lt a b a' b' G) (ha : a ≤ a') (hb : b' ≤ b) (hs : Sw a' b' G G') (hp : ParP lt a' b' mid G') (hs2 : Sw a' mid G' H) (hso : Srt lt a' mid H) : Out lt a b (mid + 1) b' H := by
  obtain ⟨p1, p2, plo, phi⟩ := hp
  have hO := h.sw ha hb (hs.trans (hs2.mono (Nat.le_refl _) (by omega)))
  have em : H mid = G' mid := hs2.out (by omega)
  have hlo : ∀ k, a' ≤ k → k < mid → lt (H k) (H mid) = true := fun k h1 h2 => by
    rw [em]; exact hs2.all (p := fun x => lt x (G' mid) = true) plo h1 h2
  intro p q h1 h2 h3 h4
  by_cases hpq : p < a' ∨ b' ≤ q
  · exact hO p q h1 h2 h3 hpq
  · have has : p < mid → lt (H mid) (H p) = false := fun hpm => hcmp.asym _ _ (hD p (by omega)) (hD mid (by omega)) (hlo p (by omega) hpm)
    by_cases hqm : q < mid
    · exact hso p q (by omega) h2 hqm
    · by_cases hqe : q = mid
      · rw [hqe]; exact has (by omega)
      · have hq : lt (H q) (H mid) = false := by rw [em, hs2.out (by omega)]; exact phi q (by omega) (by omega)
        by_cases hpm : p = mid
        · rw [hpm]; exact hq
        · exact hcmp.ntr _ _ _ (hD q h3) (hD mid (by omega)) (hD p (by omega)) hq (has (by omega))
/-- After a partition, and the sort of its upper part. -/
theorem Out.high (hcmp : CmpOK cv D lt) {a b a' b' mid : Nat} {G G' H : Nat → V} (hD : ∀ k, k < b → D (H k)) (h : Out lt a b a' b' G) (ha : a ≤ a') (hb : b' ≤ b) (hs : Sw a' b' G G') (hp : ParP lt a' b' mid G') (hs2 : Sw (mid + 1) b' G' H) (hso : Srt lt (mid + 1) b' H) : Out lt a b a' mid H := by
  obtain ⟨p1, p2, plo, phi⟩ := hp
  have hO := h.sw ha hb (hs.trans (hs2.mono (by omega) (Nat.le_refl _)))
  have em : H mid = G' mid := hs2.out (by omega)
  have hhi : ∀ k, mid < k → k < b' → lt (H k) (H mid) = false := fun k h1 h2 => by
    rw [em]; exact hs2.all (p := fun x => lt x (G' mid) = false) (fun k h1 h2 => phi k (by omega) h2) h1 h2
  intro p q h1 h2 h3 h4
  by_cases hpq : p < a' ∨ b' ≤ q
  · exact hO p q h1 h2 h3 hpq
  · have has : p < mid → lt (H mid) (H p) = false := fun hpm => by
      rw [em, hs2.out (k := p) (by omega)]
      have := plo p (by omega) hpm
      have e : H p = G' p := hs2.out (by omega)
      refine hcmp.asym _ _ ?_ ?_ this
      · rw [← e]; exact hD p (by omega)
      · rw [← em]; exact hD mid (by omega)
    by_cases hqe : q = mid
    · rw [hqe]; exact has (by omega)
    · have hq := hhi q (by omega) (by omega)
      by_cases hpm : p < mid
      · exact hcmp.ntr _ _ _ (hD q h3) (hD mid (by omega)) (hD p (by omega)) hq (has hpm)
      · by_cases hpe : p = mid
        · rw [hpe]; exact hq
        · exact hso p q (by omega) h2 (by omega)
/-- After a partition by equal elements. -/
theorem Out.eq (hcmp : CmpOK cv D lt) {a b a' b' mid : Nat} {G H : Nat → V} (hD : ∀ k, k < b → D (H k)) (h : Out lt a b a' b' G) (ha : a ≤ a') (hb : b' ≤ b) (hs : Sw a' b' G H) (hm : a' < mid) (hmb : mid ≤ b') (hlo : ∀ k, a' < k → k < mid → lt (H a') (H k) = false) (hge : ∀ k, a' ≤ k → k < b' → lt (H k) (H a') = false) : Out lt a b mid b' H := by
  have hO := h.sw ha hb hs
  intro p q h1 h2 h3 h4
  by_cases hpq : p < a' ∨ b' ≤ q
  · exact hO p q h1 h2 h3 hpq
  · have hq := hge q (by omega) (by omega)
    by_cases hp : p = a'
    · rw [hp]; exact hq
    · exact hcmp.ntr _ _ _ (hD q h3) (hD a' (by omega)) (hD p (by omega)) hq (hlo p (by omega) (by omega))
theorem DA.trans {σ0 σ1 σ2 : List O} {id ver n : Nat} {G H : Nat → V} (h : DA σ0 id ver n G σ1) (h2 : DA σ1 id ver n H σ2) : DA σ0 id ver n H σ2 := ⟨h2.at_, by rw [h2.is_, h.is_, List.set_set]⟩

/-- The functions of a sort. -/
structure SortFns (pdqF insF heapF brkF pivF revF pisF peqF parF siftF madjF medF ord2F : FuncId) : Prop where
  pdq : ∃ fn ex, Fn_ Tryz.prog pdqF fn ex (gpdq insF heapF brkF pivF revF pisF peqF parF pdqF) grpdq
  ins : ∃ fn ex, Fn_ Tryz.prog insF fn ex gins grins
  heap : ∃ fn ex, Fn_ Tryz.prog heapF fn ex (gheap siftF) grheap
  brk : ∃ fn ex, Fn_ Tryz.prog brkF fn ex gbrk grbrk
  piv : ∃ fn ex, Fn_ Tryz.prog pivF fn ex (gpiv madjF medF) grpiv
  rev : ∃ fn ex, Fn_ Tryz.prog revF fn ex grev grrev
  pis : ∃ fn ex, Fn_ Tryz.prog pisF fn ex gpis grpis
  peq : ∃ fn ex, Fn_ Tryz.prog peqF fn ex gpeq grpeq
  par : ∃ fn ex, Fn_ Tryz.prog parF fn ex gpar grpar
  sift : ∃ fn ex, Fn_ Tryz.prog siftF fn ex gsift grsift
  madj : ∃ fn ex, Fn_ Tryz.prog madjF fn ex (gmadj medF) grmadj
  med : ∃ fn ex, Fn_ Tryz.prog medF fn ex (gmed ord2F) grmed
  ord2 : ∃ fn ex, Fn_ Tryz.prog ord2F fn ex gord2 grord2
theorem sortA : SortFns 118 122 123 124 125 126 127 128 129 140 143 144 148 :=
  ⟨⟨_, _, gf118⟩, ⟨_, _, gf122⟩, ⟨_, _, gf123⟩, ⟨_, _, gf124⟩, ⟨_, _, gf125⟩, ⟨_, _, gf126⟩, ⟨_, _, gf127⟩, ⟨_, _, gf128⟩, ⟨_, _, gf129⟩, ⟨_, _, gf140⟩, ⟨_, _, gf143⟩, ⟨_, _, gf144⟩, ⟨_, _, gf148⟩⟩
theorem sortB_ : SortFns 121 132 133 134 135 136 137 138 139 145 146 147 149 :=
  ⟨⟨_, _, gf121⟩, ⟨_, _, gf132⟩, ⟨_, _, gf133⟩, ⟨_, _, gf134⟩, ⟨_, _, gf135⟩, ⟨_, _, gf136⟩, ⟨_, _, gf137⟩, ⟨_, _, gf138⟩, ⟨_, _, gf139⟩, ⟨_, _, gf145⟩, ⟨_, _, gf146⟩, ⟨_, _, gf147⟩, ⟨_, _, gf149⟩⟩

theorem pdq_ok {pdqF insF heapF brkF pivF revF pisF peqF parF siftF madjF medF ord2F : FuncId} (hS : SortFns pdqF insF heapF brkF pivF revF pisF peqF parF siftF madjF medF ord2F) (hcmp : CmpOK cv D lt) {id ver n : Nat} (hn : n ≤ 60000) :
    ∀ (N : Nat) {σ : List O} {a b lim : Nat} {F : Nat → V}, b - a < N → (∀ k, k < n → D (F k)) → a ≤ b → b ≤ n → lim ≤ 100 → σ[id]? = some (.row ver (rowV n F)) → (a = 0 ∨ ∀ k, a ≤ k → k < b → lt (F k) (F (a - 1)) = false) →
    FSpecQ Tryz.prog pdqF [slV id ver n, .i .i64 a, .i .i64 b, .i .i64 lim, cv] σ (SwQ σ id ver n a b F (Srt lt a b) (.tup [])) := by
  intro N
  induction N with
  | zero => intro σ a b lim F h; omega
  | succ N ih =>
    intro σ a b lim F hNb hD hab hbn hlim hσ hleft
    obtain ⟨_, _, hpdq⟩ := hS.pdq
    obtain ⟨_, _, hins⟩ := hS.ins
    obtain ⟨_, _, hheap⟩ := hS.heap
    obtain ⟨_, _, hbrk⟩ := hS.brk
    obtain ⟨_, _, hpiv⟩ := hS.piv
    obtain ⟨_, _, hrev⟩ := hS.rev
    obtain ⟨_, _, hpis⟩ := hS.pis
    obtain ⟨_, _, hpeq⟩ := hS.peq
    obtain ⟨_, _, hpar⟩ := hS.par
    obtain ⟨_, _, hsift⟩ := hS.sift
    obtain ⟨_, _, hmadj⟩ := hS.madj
    obtain ⟨_, _, hmed⟩ := hS.med
    obtain ⟨_, _, hord2⟩ := hS.ord2
    have hn' : n ≤ 1000000 := by omega
    refine hpdq.specQ mixed noIt_ok ?_
    rw [gpdq]
    refine ab_seq_k fun K1 h1 => ?_
    simp
    refine h1 _ _ _ ?_
    clear h1 K1
    refine ab_seq_k fun K2 h2 => ?_
    simp
    refine h2 _ _ _ ?_
    clear h2 K2
    refine ab_block_k fun K3 h3 => ?_
    refine ab_loop_k (fun m env σ' => ∃ (a' b' l' : Nat) (wb wp : Bool) (G : Nat → V), b' - a' = m ∧ a ≤ a' ∧ a' ≤ b' ∧ b' ≤ b ∧ l' ≤ 100 ∧ env = [(0, slV id ver n), (1, .i .i64 a'), (2, .i .i64 b'), (3, .i .i64 l'), (4, cv), (10, .b wb), (11, .b wp)] ∧ Sw a b F G ∧ Out lt a b a' b' G ∧ DA σ id ver n G σ') _ ⟨a, b, lim, true, true, F, rfl, Nat.le_refl _, hab, Nat.le_refl _, hlim, by simp, .refl F, fun p q _ _ _ h => by omega, DA.mk0 hσ⟩ ?_
    rintro m env σ' ⟨a', b', l', wb, wp, G, hm, haa, hab', hbb, hl', rfl, hsw, hout, hda⟩ K4 h4
    have hGD : ∀ {G}, Sw a b F G → ∀ k, k < n → D (G k) := fun h k hk => h.alln hbn hD hk
    rw [gpdq_0]
    refine ab_block_k fun K5 h5 => ?_
    obtain ⟨l, hl⟩ : ∃ l, l = b' - a' := ⟨_, rfl⟩
    have e1 : IntKind.i64.wrap ((b' : Int) - a') = l := by rw [wrap64 (by omega) (by omega)]; omega
    refine ab_seq_k fun K6 h6 => ?_
    simp [e1]
    refine h6 _ _ _ ?_
    clear h6 K6
    refine ab_seq_k fun K7 h7 => ?_
    refine ab_seq_k fun K8 h8 => ?_
    simp
    refine h8 _ _ _ ?_
    clear h8 K8
    by_cases h12 : l ≤ 12
    · refine ab_cond_of rfl (fun _ => ?_) (fun h => by simp at h; omega)
      refine ab_seq_k fun K9 h9 => ?_
      simp
      refine callR_of (ins_ok hins hcmp (hGD hsw) hab' (by omega) hn' hda.at_) ?_
      rintro v σ2 ⟨rfl, H, s1, s2, s3⟩
      simp
      refine h9 _ _ _ ?_
      simp
      refine fin_Q ?_
      simp [grpdq]
      exact ⟨rfl, H, hsw.trans (s1.mono haa hbb), hout.fin haa hbb s1 s2, hda.trans s3⟩
    refine ab_cond_of rfl (fun h => by simp at h; omega) (fun _ => ?_)
    simp
    refine h7 _ _ _ ?_
    clear h7 K7
    refine ab_seq_k fun K7 h7 => ?_
    refine ab_seq_k fun K8 h8 => ?_
    simp
    refine h8 _ _ _ ?_
    clear h8 K8
    by_cases hl0 : l' = 0
    · refine ab_cond_of rfl (fun _ => ?_) (fun h => by simp [hl0] at h)
      refine ab_seq_k fun K9 h9 => ?_
      simp
      refine callR_of (heap_ok hheap hsift hcmp (hGD hsw) (by omega) (by omega) hn' hda.at_) ?_
      rintro v σ2 ⟨rfl, H, s1, s2, s3⟩
      simp
      refine h9 _ _ _ ?_
      simp
      refine fin_Q ?_
      simp [grpdq]
      exact ⟨rfl, H, hsw.trans (s1.mono haa hbb), hout.fin haa hbb s1 s2, hda.trans s3⟩
    refine ab_cond_of rfl (fun h => by simp at h; omega) (fun _ => ?_)
    simp
    refine h7 _ _ _ ?_
    clear h7 K7
    refine ab_seq_k fun K10 h10 => ?_
    have hK10 : ∀ env (G : Nat → V) σ' (l2 : Nat), get env 0 = slV id ver n → get env 1 = .i .i64 a' → get env 2 = .i .i64 b' → get env 3 = .i .i64 l2 → get env 4 = cv → get env 10 = .b wb → get env 11 = .b wp → get env 12 = .i .i64 l → l2 ≤ 100 → Sw a b F G → Out lt a b a' b' G → DA σ id ver n G σ' → K10 (some 0) env σ' := by
      intro env G σ' l2 w0 w1 w2 w3 w4 w10 w11 w12 hl2 hsw hout hda
      refine h10 _ _ _ ?_
      clear h10
      have hend : ∀ env (a2 b2 : Nat) (wb wp : Bool) (G : Nat → V) σ', get env 0 = slV id ver n → get env 1 = .i .i64 a2 → get env 2 = .i .i64 b2 → get env 3 = .i .i64 l2 → get env 4 = cv → get env 10 = .b wb → get env 11 = .b wp → a' ≤ a2 → a2 ≤ b2 → b2 ≤ b' → b2 - a2 < b' - a' → Sw a b F G → Out lt a b a2 b2 G → DA σ id ver n G σ' → K5 (some 0) env σ' := by
        intro env a2 b2 wb wp G σ' w0 w1 w2 w3 w4 w10 w11 q1 q2 q3 q4 s1 s2 s3
        refine h5 _ _ _ (h4 _ _ _ (again _ ?_ ⟨a2, b2, l2, wb, wp, G, rfl, by omega, q2, by omega, hl2, by simp [w0, w1, w2, w3, w4, w10, w11], s1, s2, s3⟩))
        omega
      clear h4 h5
      refine ab_seq_k fun K13 h13 => ?_
      simp [w0, w1, w2, w3, w4, w10, w11, w12]
      refine callR_of (piv_ok hpiv hmadj hmed hord2 hcmp (hGD hsw) (by omega) (by omega) hn' hda.at_) ?_
      rintro v σ2 ⟨pv, hint, rfl, pv1, pv2, rfl⟩
      simp [w0, w1, w2, w3, w4, w10, w11, w12]
      refine h13 _ _ _ ?_
      clear h13 K13
      refine ab_seq_k fun K14 h14 => ?_
      have hK14 : ∀ env (G : Nat → V) σ' (pv : Nat) (hint : Int), get env 0 = slV id ver n → get env 1 = .i .i64 a' → get env 2 = .i .i64 b' → get env 3 = .i .i64 l2 → get env 4 = cv → get env 10 = .b wb → get env 11 = .b wp → get env 12 = .i .i64 l → get env 13 = .i .i64 pv → get env 14 = .i .i64 hint → a' ≤ pv → pv < b' → Sw a b F G → Out lt a b a' b' G → DA σ id ver n G σ' → K14 (some 0) env σ' := by
        intro env G σ' pv hint w0 w1 w2 w3 w4 w10 w11 w12 w13 w14 pv1 pv2 hsw hout hda
        refine h14 _ _ _ ?_
        clear h14
        refine ab_seq_k fun K15 h15 => ?_
        have hK15 : ∀ env (G : Nat → V) σ', get env 0 = slV id ver n → get env 1 = .i .i64 a' → get env 2 = .i .i64 b' → get env 3 = .i .i64 l2 → get env 4 = cv → get env 10 = .b wb → get env 11 = .b wp → get env 12 = .i .i64 l → get env 13 = .i .i64 pv → Sw a b F G → Out lt a b a' b' G → DA σ id ver n G σ' → K15 (some 0) env σ' := by
          intro env G σ' w0 w1 w2 w3 w4 w10 w11 w12 w13 hsw hout hda
          refine h15 _ _ _ ?_
          clear h15
          have hlf := hout.left haa (by omega) hbb hsw hleft
          have hat := hda.at_
          obtain ⟨hat1, hat'⟩ := List.getElem?_eq_some_iff.1 hat
          have hpn : pv < n := by omega
          have han : a' < n := by omega
          refine ab_seq_k fun K16 h16 => ?_
          have hK16 : ∀ env, get env 0 = slV id ver n → get env 1 = .i .i64 a' → get env 2 = .i .i64 b' → get env 3 = .i .i64 l2 → get env 4 = cv → get env 10 = .b wb → get env 11 = .b wp → get env 12 = .i .i64 l → get env 13 = .i .i64 pv → K16 (some 0) env σ' := by
            intro env w0 w1 w2 w3 w4 w10 w11 w12 w13
            refine h16 _ _ _ ?_
            clear h16
            refine ab_seq_k fun K17 h17 => ?_
            simp [w0, w1, w2, w3, w4, w10, w11, w12, w13]
            refine callR_of (par_ok hpar hcmp (hGD hsw) pv1 pv2 (by omega) hn' hda.at_) ?_
            rintro v σ2 ⟨mid, al, H, rfl, s1, s2, s3⟩
            simp [w0, w1, w2, w3, w4, w10, w11, w12, w13]
            refine h17 _ _ _ ?_
            clear h17 K17
            have hsw2 := hsw.trans (s1.mono haa hbb)
            have hda2 := hda.trans s3
            have sP := s2
            obtain ⟨m1, m2, mlo, mhi⟩ := s2
            obtain ⟨L, hL⟩ : ∃ L, L = mid - a' := ⟨_, rfl⟩
            obtain ⟨Rr, hR⟩ : ∃ R, R = b' - mid := ⟨_, rfl⟩
            obtain ⟨q8, hq8⟩ : ∃ q, q = l / 8 := ⟨_, rfl⟩
            have f1 : IntKind.i64.wrap ((mid : Int) - a') = L := by rw [wrap64 (by omega) (by omega)]; omega
            have f2 : IntKind.i64.wrap ((b' : Int) - mid) = Rr := by rw [wrap64 (by omega) (by omega)]; omega
            have f3 : IntKind.i64.wrap ((l : Int).tdiv 8) = q8 := by
              have : (l : Int).tdiv 8 = ((l / 8 : Nat) : Int) := rfl
              rw [this, wrap64 (by omega) (by omega), hq8]
            have f3' : IntKind.i64.wrap ((l : Int) / 8) = q8 := by rw [wrap64 (by omega) (by omega)]; omega
            have f4 := wrap64 (x := (mid : Int) + 1) (by omega) (by omega)
            refine ab_seq_k fun K18 h18 => ?_
            simp
            refine h18 _ _ _ ?_
            clear h18 K18
            refine ab_seq_k fun K19 h19 => ?_
            simp [f1, f2]
            refine h19 _ _ _ ?_
            clear h19 K19
            refine ab_seq_k fun K20 h20 => ?_
            simp [f3, f3']
            refine h20 _ _ _ ?_
            clear h20 K20
            refine ab_seq_k fun K21 h21 => ?_
            simp
            refine h21 _ _ _ ?_
            clear h21 K21
            by_cases hLR : L < Rr
            · refine ab_cond_of rfl (fun _ => ?_) (fun h => by simp at h; omega)
              refine ab_seq_k fun K22 h22 => ?_
              simp
              refine h22 _ _ _ ?_
              clear h22 K22
              refine ab_seq_k fun K23 h23 => ?_
              simp
              have hl2' : a' = 0 ∨ ∀ k, a' ≤ k → k < mid → lt (H k) (H (a' - 1)) = false := by
                rcases (hout.sw haa hbb s1).left haa (by omega) hbb hsw2 hleft with h | h
                · exact .inl h
                · exact .inr fun k k1 k2 => h k k1 (by omega)
              refine callR_of (ih (lim := l2) (by omega) (hGD hsw2) m1 (by omega) hl2 hda2.at_ hl2') ?_
              rintro v σ3 ⟨rfl, H2, t1, t2, t3⟩
              simp
              refine h23 _ _ _ ?_
              simp [f4]
              have hsw3 := hsw2.trans (t1.mono haa (by omega))
              refine hend _ (mid + 1) b' (decide (q8 ≤ L)) al H2 _ rfl rfl rfl rfl rfl (by simp) rfl (by omega) (by omega) (by omega) (by omega) hsw3 (hout.low hcmp (fun k hk => hGD hsw3 k (by omega)) haa hbb s1 sP t1 t2) (hda2.trans t3)
            · refine ab_cond_of rfl (fun h => by simp at h; omega) (fun _ => ?_)
              refine ab_seq_k fun K22 h22 => ?_
              simp
              refine h22 _ _ _ ?_
              clear h22 K22
              refine ab_seq_k fun K23 h23 => ?_
              simp [f4]
              have hl2' : mid + 1 = 0 ∨ ∀ k, mid + 1 ≤ k → k < b' → lt (H k) (H (mid + 1 - 1)) = false := .inr fun k k1 k2 => mhi k (by omega) k2
              refine callR_of (ih (lim := l2) (a := mid + 1) (by omega) (hGD hsw2) (by omega) (by omega) hl2 hda2.at_ hl2') ?_
              rintro v σ3 ⟨rfl, H2, t1, t2, t3⟩
              simp
              refine h23 _ _ _ ?_
              simp
              have hsw3 := hsw2.trans (t1.mono (by omega) hbb)
              refine hend _ a' mid (decide (q8 ≤ Rr)) al H2 _ rfl rfl rfl rfl rfl (by simp) rfl (by omega) (by omega) (by omega) (by omega) hsw3 (hout.high hcmp (fun k hk => hGD hsw3 k (by omega)) haa hbb s1 sP t1 t2) (hda2.trans t3)
          clear h16
          refine ab_seq_k fun K17 h17 => ?_
          by_cases ha0 : 0 < a'
          · obtain ⟨x, hx⟩ : ∃ x, x + 1 = a' := ⟨a' - 1, by omega⟩
            have hxn : x < n := by omega
            have f1 : IntKind.i64.wrap ((a' : Int) - 1) = x := by rw [wrap64 (by omega) (by omega)]; omega
            simp [abDs_consU, drU, recheck_cons, recheck_nil, rcK, IS.dst, w0, w1, w2, w3, w4, w10, w11, w12, w13, ha0, f1, hat, hat', hxn, hpn, rowV_get]
            refine callv_cmp hcmp (hGD hsw _ hxn) (hGD hsw _ hpn) fun c hcc => ?_
            simp [abDs_consU, drU, recheck_cons, recheck_nil, rcK, IS.dst, hcc, w0, w1, w2, w3, w4, w10, w11, w12, w13]
            refine h17 _ _ _ ?_
            clear h17
            cases hlx : lt (G x) (G pv) with
            | true =>
              refine ab_cond_of rfl (fun h => by cases h) (fun _ => ?_)
              simp
              exact hK16 _ rfl rfl rfl rfl rfl rfl rfl rfl rfl
            | false =>
              refine ab_cond_of rfl (fun _ => ?_) (fun h => by cases h)
              refine ab_seq_k fun K18 h18 => ?_
              simp
              refine callR_of (peq_ok hpeq hcmp (hGD hsw) pv1 pv2 (by omega) hn' hda.at_) ?_
              rintro v σ2 ⟨mid, H, rfl, s1, s2, s3, s4, s5, s6, s7⟩
              simp
              refine h18 _ _ _ ?_
              clear h18 K18
              refine ab_seq_k fun K19 h19 => ?_
              simp
              refine h19 _ _ _ ?_
              clear h19 K19
              simp
              have hsw2 := hsw.trans (s1.mono haa hbb)
              have hge : ∀ k, a' ≤ k → k < b' → lt (G k) (G pv) = false := by
                rcases hlf with h | h
                · omega
                · intro k k1 k2
                  have := h k k1 k2
                  rw [show a' - 1 = x by omega] at this
                  exact hcmp.ntr _ _ _ (hGD hsw k (by omega)) (hGD hsw x hxn) (hGD hsw pv hpn) this hlx
              refine hend _ mid b' wb wp H _ rfl rfl rfl rfl rfl rfl rfl (by omega) (by omega) (by omega) (by omega) hsw2 (hout.eq hcmp (fun k hk => hGD hsw2 k (by omega)) haa hbb s1 s3 s4 s5 (fun k k1 k2 => by rw [s2]; exact s1.all (p := fun x => lt x (G pv) = false) hge k1 k2)) (hda.trans s7)
          · simp [abDs_consU, drU, recheck_cons, recheck_nil, rcK, IS.dst, w0, w1, w2, w3, w4, w10, w11, w12, w13, ha0]
            refine h17 _ _ _ ?_
            clear h17
            refine ab_cond_of rfl (fun h => by cases h) (fun _ => ?_)
            simp
            exact hK16 _ rfl rfl rfl rfl rfl rfl rfl rfl rfl
        clear h15
        refine ab_seq_k fun K16 h16 => ?_
        have hK16 : ∀ env c, get env 0 = slV id ver n → get env 1 = .i .i64 a' → get env 2 = .i .i64 b' → get env 3 = .i .i64 l2 → get env 4 = cv → get env 10 = .b wb → get env 11 = .b wp → get env 12 = .i .i64 l → get env 13 = .i .i64 pv → get env 75 = .b c → K16 (some 0) env σ' := by
          intro env c w0 w1 w2 w3 w4 w10 w11 w12 w13 w75
          refine h16 _ _ _ ?_
          clear h16
          cases c with
          | false =>
            refine ab_cond_of w75 (fun h => by cases h) (fun _ => ?_)
            simp
            exact hK15 _ G _ w0 w1 w2 w3 w4 w10 w11 w12 w13 hsw hout hda
          | true =>
            refine ab_cond_of w75 (fun _ => ?_) (fun h => by cases h)
            refine ab_seq_k fun K17 h17 => ?_
            simp [w0, w1, w2, w3, w4, w10, w11, w12, w13]
            refine callR_of (pis_ok hpis hcmp (hGD hsw) (by omega) (by omega) hn' hda.at_ (hout.left haa (by omega) hbb hsw hleft)) ?_
            rintro v σ2 ⟨r, H, rfl, s1, s2, s3⟩
            simp [w0, w1, w2, w3, w4, w10, w11, w12, w13]
            refine h17 _ _ _ ?_
            cases r with
            | true =>
              refine ab_cond_of rfl (fun _ => ?_) (fun h => by cases h)
              simp
              refine fin_Q ?_
              simp [grpdq]
              exact ⟨rfl, H, hsw.trans (s1.mono haa hbb), hout.fin haa hbb s1 (s2 rfl), hda.trans s3⟩
            | false =>
              refine ab_cond_of rfl (fun h => by cases h) (fun _ => ?_)
              simp
              exact hK15 _ H _ rfl rfl rfl rfl rfl rfl rfl rfl rfl (hsw.trans (s1.mono haa hbb)) (hout.sw haa hbb s1) (hda.trans s3)
        clear h16 hK15
        cases wb with
        | false =>
          simp [w0, w1, w2, w3, w4, w10, w11, w12, w13, w14]
          exact hK16 _ false rfl rfl rfl rfl rfl rfl rfl rfl rfl rfl
        | true =>
          cases wp with
          | false =>
            simp [w0, w1, w2, w3, w4, w10, w11, w12, w13, w14]
            exact hK16 _ false rfl rfl rfl rfl rfl rfl rfl rfl rfl rfl
          | true =>
            simp [w0, w1, w2, w3, w4, w10, w11, w12, w13, w14]
            exact hK16 _ _ rfl rfl rfl rfl rfl rfl rfl rfl rfl rfl
      clear h14
      refine ab_seq_k fun K15 h15 => ?_
      simp
      refine h15 _ _ _ ?_
      clear h15 K15
      by_cases hh2 : hint = 2
      · refine ab_cond_of rfl (fun _ => ?_) (fun h => by simp [hh2] at h)
        refine ab_seq_k fun K16 h16 => ?_
        simp
        refine callR_of (rev_ok hrev hcmp (hGD hsw) (by omega) (by omega) hn' hda.at_) ?_
        rintro v σ3 ⟨rfl, H, s1, -, s3⟩
        simp
        refine h16 _ _ _ ?_
        clear h16 K16
        obtain ⟨d, hd⟩ : ∃ d, d = pv - a' := ⟨_, rfl⟩
        obtain ⟨b1, hb1⟩ : ∃ b1, b1 + 1 = b' := ⟨b' - 1, by omega⟩
        have f1 : IntKind.i64.wrap ((b' : Int) - 1) = b1 := by rw [wrap64 (by omega) (by omega)]; omega
        have f2 : IntKind.i64.wrap ((pv : Int) - a') = d := by rw [wrap64 (by omega) (by omega)]; omega
        have f3 : IntKind.i64.wrap ((b1 : Int) - d) = ((b1 - d : Nat) : Int) := by rw [wrap64 (by omega) (by omega)]; omega
        refine ab_seq_k fun K17 h17 => ?_
        simp [f1, f2, f3]
        refine h17 _ _ _ ?_
        clear h17 K17
        simp
        exact hK14 _ H _ (b1 - d) 1 rfl rfl rfl rfl rfl rfl rfl rfl rfl rfl (by omega) (by omega) (hsw.trans (s1.mono haa hbb)) (hout.sw haa hbb s1) (hda.trans s3)
      · refine ab_cond_of rfl (fun h => by simp [hh2] at h) (fun _ => ?_)
        simp
        exact hK14 _ G _ pv hint rfl rfl rfl rfl rfl rfl rfl rfl rfl rfl pv1 pv2 hsw hout hda
    clear h10
    refine ab_seq_k fun K11 h11 => ?_
    simp
    refine h11 _ _ _ ?_
    cases wb with
    | true =>
      refine ab_cond_of rfl (fun h => by cases h) (fun _ => ?_)
      simp
      exact hK10 _ G _ l' rfl rfl rfl rfl rfl rfl rfl rfl hl' hsw hout hda
    | false =>
      refine ab_cond_of rfl (fun _ => ?_) (fun h => by cases h)
      refine ab_seq_k fun K12 h12 => ?_
      simp
      refine callR_of (brk_ok hbrk hcmp (hGD hsw) (by omega) (by omega) hn hda.at_) ?_
      rintro v σ2 ⟨rfl, H, s1, s2, s3⟩
      simp
      refine h12 _ _ _ ?_
      have e2 : IntKind.i64.wrap ((l' : Int) - 1) = ((l' - 1 : Nat) : Int) := by rw [wrap64 (by omega) (by omega)]; omega
      simp [e2]
      exact hK10 _ H _ (l' - 1) rfl rfl rfl rfl rfl rfl rfl rfl (by omega) (hsw.trans (s1.mono haa hbb)) (hout.sw haa hbb s1) (hda.trans s3)
end
end Go.Ab
