import Derived.Test.YtgndegccjhdmmaaGreatP9x12
/- Part 13 of what the theorem in TB rests on: an abstract layer over the calculus, contracts of the functions of the program, and plain facts. -/
set_option linter.unusedVariables false
set_option linter.unusedSimpArgs false
set_option linter.constructorNameAsVariable false
set_option maxHeartbeats 4000000
set_option maxRecDepth 100000
section
namespace Go.Ab
open Go Go.Proofs
section
variable {cv : V} {D : V → Prop} {lt : V → V → Bool}
def Out (lt : V → V → Bool) (a b a' b' : Nat) (G : Nat → V) : Prop := ∀ p q, a ≤ p → p < q → q < b → (p < a' ∨ b' ≤ q) → lt (G q) (G p) = false
theorem Sw.src' {a b : Nat} {G H : Nat → V} (hs : Sw a b G H) (k : Nat) : ∃ k', H k = G k' ∧ ((a ≤ k ∧ k < b ∧ a ≤ k' ∧ k' < b) ∨ k' = k ∧ (k < a ∨ b ≤ k)) := by
 by_cases hk : a ≤ k ∧ k < b
 ·obtain ⟨k', k1, k2, e⟩ := hs.src hk.1 hk.2
  exact ⟨k', e, .inl ⟨hk.1, hk.2, k1, k2⟩⟩
 ·exact ⟨k, hs.out (by omega), .inr ⟨rfl, by omega⟩⟩
theorem Out.sw {a b a' b' : Nat} {G H : Nat → V} (h : Out lt a b a' b' G) (ha : a ≤ a') (hb : b' ≤ b) (hs : Sw a' b' G H) : Out lt a b a' b' H := by
 intro p q h1 h2 h3 h4
 obtain ⟨p', ep, hp⟩ := hs.src' p
 obtain ⟨q', eq, hq⟩ := hs.src' q
 rw [ep, eq]
 exact h p' q' (by omega) (by omega) (by omega) (by omega)
theorem Out.fin {a b a' b' : Nat} {G H : Nat → V} (h : Out lt a b a' b' G) (ha : a ≤ a') (hb : b' ≤ b) (hs : Sw a' b' G H) (hso : Srt lt a' b' H) : Srt lt a b H := by
 intro p q h1 h2 h3
 by_cases hpq : p < a' ∨ b' ≤ q
 ·exact h.sw ha hb hs p q h1 h2 h3 hpq
 ·exact hso p q (by omega) h2 (by omega)
theorem Out.left {a b a' b' : Nat} {F G : Nat → V} (h : Out lt a b a' b' G) (ha : a ≤ a') (hab : a' < b') (hb : b' ≤ b) (hs : Sw a b F G) (hl : a = 0 ∨ ∀ k, a ≤ k → k < b → lt (F k) (F (a - 1)) = false) : a' = 0 ∨ ∀ k, a' ≤ k → k < b' → lt (G k) (G (a' - 1)) = false := by
 by_cases he : a' = a
 ·rcases hl with h0 | hl
  ·exact .inl (by omega)
  ·by_cases ha0 : a = 0
   ·exact .inl (by omega)
   ·refine .inr fun k h1 h2 => ?_
    rw [he, hs.out (k := a - 1) (by omega)]
    exact hs.all (p := fun x => lt x (F (a - 1)) = false) hl (by omega) (by omega)
 ·exact .inr fun k h1 h2 => h (a' - 1) k (by omega) (by omega) (by omega) (.inl (by omega))
theorem Out.low (hcmp : CmpOK cv D lt) {a b a' b' mid : Nat} {G G' H : Nat → V} (hD : ∀ k, k < b → D (H k)) (h : Out lt a b a' b' G) (ha : a ≤ a') (hb : b' ≤ b) (hs : Sw a' b' G G') (hp : ParP lt a' b' mid G') (hs2 : Sw a' mid G' H) (hso : Srt lt a' mid H) : Out lt a b (mid + 1) b' H := by
 obtain ⟨p1, p2, plo, phi⟩ := hp
 have hO := h.sw ha hb (hs.trans (hs2.mono (Nat.le_refl _) (by omega)))
 have em : H mid = G' mid := hs2.out (by omega)
 have hlo : ∀ k, a' ≤ k → k < mid → lt (H k) (H mid) = true := fun k h1 h2 => by
  rw [em]; exact hs2.all (p := fun x => lt x (G' mid) = true) plo h1 h2
 intro p q h1 h2 h3 h4
 by_cases hpq : p < a' ∨ b' ≤ q
 ·exact hO p q h1 h2 h3 hpq
 ·have has : p < mid → lt (H mid) (H p) = false := fun hpm => hcmp.asym _ _ (hD p (by omega)) (hD mid (by omega)) (hlo p (by omega) hpm)
  by_cases hqm : q < mid
  ·exact hso p q (by omega) h2 hqm
  ·by_cases hqe : q = mid
   ·rw [hqe]; exact has (by omega)
   ·have hq : lt (H q) (H mid) = false := by rw [em, hs2.out (by omega)]; exact phi q (by omega) (by omega)
    by_cases hpm : p = mid
    ·rw [hpm]; exact hq
    ·exact hcmp.ntr _ _ _ (hD q h3) (hD mid (by omega)) (hD p (by omega)) hq (has (by omega))
theorem Out.high (hcmp : CmpOK cv D lt) {a b a' b' mid : Nat} {G G' H : Nat → V} (hD : ∀ k, k < b → D (H k)) (h : Out lt a b a' b' G) (ha : a ≤ a') (hb : b' ≤ b) (hs : Sw a' b' G G') (hp : ParP lt a' b' mid G') (hs2 : Sw (mid + 1) b' G' H) (hso : Srt lt (mid + 1) b' H) : Out lt a b a' mid H := by
 obtain ⟨p1, p2, plo, phi⟩ := hp
 have hO := h.sw ha hb (hs.trans (hs2.mono (by omega) (Nat.le_refl _)))
 have em : H mid = G' mid := hs2.out (by omega)
 have hhi : ∀ k, mid < k → k < b' → lt (H k) (H mid) = false := fun k h1 h2 => by
  rw [em]; exact hs2.all (p := fun x => lt x (G' mid) = false) (fun k h1 h2 => phi k (by omega) h2) h1 h2
 intro p q h1 h2 h3 h4
 by_cases hpq : p < a' ∨ b' ≤ q
 ·exact hO p q h1 h2 h3 hpq
 ·have has : p < mid → lt (H mid) (H p) = false := fun hpm => by
   rw [em, hs2.out (k := p) (by omega)]
   have := plo p (by omega) hpm
   have e : H p = G' p := hs2.out (by omega)
   refine hcmp.asym _ _ ?_ ?_ this
   ·rw [← e]; exact hD p (by omega)
   ·rw [← em]; exact hD mid (by omega)
  by_cases hqe : q = mid
  ·rw [hqe]; exact has (by omega)
  ·have hq := hhi q (by omega) (by omega)
   by_cases hpm : p < mid
   ·exact hcmp.ntr _ _ _ (hD q h3) (hD mid (by omega)) (hD p (by omega)) hq (has hpm)
   ·by_cases hpe : p = mid
    ·rw [hpe]; exact hq
    ·exact hso p q (by omega) h2 (by omega)
theorem Out.eq (hcmp : CmpOK cv D lt) {a b a' b' mid : Nat} {G H : Nat → V} (hD : ∀ k, k < b → D (H k)) (h : Out lt a b a' b' G) (ha : a ≤ a') (hb : b' ≤ b) (hs : Sw a' b' G H) (hm : a' < mid) (hmb : mid ≤ b') (hlo : ∀ k, a' < k → k < mid → lt (H a') (H k) = false) (hge : ∀ k, a' ≤ k → k < b' → lt (H k) (H a') = false) : Out lt a b mid b' H := by
 have hO := h.sw ha hb hs
 intro p q h1 h2 h3 h4
 by_cases hpq : p < a' ∨ b' ≤ q
 ·exact hO p q h1 h2 h3 hpq
 ·have hq := hge q (by omega) (by omega)
  by_cases hp : p = a'
  ·rw [hp]; exact hq
  ·exact hcmp.ntr _ _ _ (hD q h3) (hD a' (by omega)) (hD p (by omega)) hq (hlo p (by omega) (by omega))
theorem DA.trans {σ0 σ1 σ2 : List O} {id ver n : Nat} {G H : Nat → V} (h : DA σ0 id ver n G σ1) (h2 : DA σ1 id ver n H σ2) : DA σ0 id ver n H σ2 := ⟨h2.at_, by rw [h2.is_, h.is_, List.set_set]⟩
structure SortFns (pdqF insF heapF brkF pivF revF pisF peqF parF siftF madjF medF ord2F : FuncId) : Prop where
 pdq : ∃ fn ex, Fn_ Tryz.prog pdqF fn ex (gpdq insF heapF brkF pivF revF pisF peqF parF pdqF) grpdq
 ins : ∃ fn ex, Fn_ Tryz.prog insF fn ex gins grins
 heap : ∃ fn ex, Fn_ Tryz.prog heapF fn ex (gheap siftF) grheap
 brk : ∃ fn ex, Fn_ Tryz.prog brkF fn ex gbrk grbrk
 piv : ∃ fn ex, Fn_ Tryz.prog pivF fn ex (gpiv madjF medF) grpiv
 rev : ∃ fn ex, Fn_ Tryz.prog revF fn ex grev grrev
 pis : ∃ fn ex, Fn_ Tryz.prog pisF fn ex gpis grpis
 peq : ∃ fn ex, Fn_ Tryz.prog peqF fn ex gpeq grpeq
 par : ∃ fn ex, Fn_ Tryz.prog parF fn ex gpar grpar
 sift : ∃ fn ex, Fn_ Tryz.prog siftF fn ex gsift grsift
 madj : ∃ fn ex, Fn_ Tryz.prog madjF fn ex (gmadj medF) grmadj
 med : ∃ fn ex, Fn_ Tryz.prog medF fn ex (gmed ord2F) grmed
 ord2 : ∃ fn ex, Fn_ Tryz.prog ord2F fn ex gord2 grord2
theorem sortB_ : SortFns 121 132 133 134 135 136 137 138 139 145 146 147 149 :=
 ⟨⟨_, _, gf121⟩, ⟨_, _, gf132⟩, ⟨_, _, gf133⟩, ⟨_, _, gf134⟩, ⟨_, _, gf135⟩, ⟨_, _, gf136⟩, ⟨_, _, gf137⟩, ⟨_, _, gf138⟩, ⟨_, _, gf139⟩, ⟨_, _, gf145⟩, ⟨_, _, gf146⟩, ⟨_, _, gf147⟩, ⟨_, _, gf149⟩⟩
theorem pdq_ok {pdqF insF heapF brkF pivF revF pisF peqF parF siftF madjF medF ord2F : FuncId} (hS : SortFns pdqF insF heapF brkF pivF revF pisF peqF parF siftF madjF medF ord2F) (hcmp : CmpOK cv D lt) {id ver n : Nat} (hn : n ≤ 60000) :
  ∀ (N : Nat) {σ : List O} {a b lim : Nat} {F : Nat → V}, b - a < N → (∀ k, k < n → D (F k)) → a ≤ b → b ≤ n → lim ≤ 100 → σ[id]? = some (.row ver (rowV n F)) → (a = 0 ∨ ∀ k, a ≤ k → k < b → lt (F k) (F (a - 1)) = false) →
  FSpecQ Tryz.prog pdqF [slV id ver n, .i .i64 a, .i .i64 b, .i .i64 lim, cv] σ (SwQ σ id ver n a b F (Srt lt a b) (.tup [])) := by
 intro N
 induction N with
 | zero => intro σ a b lim F h; omega
 | succ N ih =>
  intro σ a b lim F hNb hD hab hbn hlim hσ hleft
  obtain ⟨_, _, hpdq⟩ := hS.pdq
  obtain ⟨_, _, hins⟩ := hS.ins
  obtain ⟨_, _, hheap⟩ := hS.heap
  obtain ⟨_, _, hbrk⟩ := hS.brk
  obtain ⟨_, _, hpiv⟩ := hS.piv
  obtain ⟨_, _, hrev⟩ := hS.rev
  obtain ⟨_, _, hpis⟩ := hS.pis
  obtain ⟨_, _, hpeq⟩ := hS.peq
  obtain ⟨_, _, hpar⟩ := hS.par
  obtain ⟨_, _, hsift⟩ := hS.sift
  obtain ⟨_, _, hmadj⟩ := hS.madj
  obtain ⟨_, _, hmed⟩ := hS.med
  obtain ⟨_, _, hord2⟩ := hS.ord2
  have hn' : n ≤ 1000000 := by omega
  refine hpdq.specQ mixed noIt_ok ?_
  rw [gpdq]
  refine ab_seq_k fun K1 h1 => ?_
  simp
  refine h1 _ _ _ ?_
  clear h1 K1
  refine ab_seq_k fun K2 h2 => ?_
  simp
  refine h2 _ _ _ ?_
  clear h2 K2
  refine ab_block_k fun K3 h3 => ?_
  refine ab_loop_k (fun m env σ' => ∃ (a' b' l' : Nat) (wb wp : Bool) (G : Nat → V), b' - a' = m ∧ a ≤ a' ∧ a' ≤ b' ∧ b' ≤ b ∧ l' ≤ 100 ∧ env = [(0, slV id ver n), (1, .i .i64 a'), (2, .i .i64 b'), (3, .i .i64 l'), (4, cv), (10, .b wb), (11, .b wp)] ∧ Sw a b F G ∧ Out lt a b a' b' G ∧ DA σ id ver n G σ') _ ⟨a, b, lim, true, true, F, rfl, Nat.le_refl _, hab, Nat.le_refl _, hlim, by simp, .refl F, fun p q _ _ _ h => by omega, DA.mk0 hσ⟩ ?_
  rintro m env σ' ⟨a', b', l', wb, wp, G, hm, haa, hab', hbb, hl', rfl, hsw, hout, hda⟩ K4 h4
  have hGD : ∀ {G}, Sw a b F G → ∀ k, k < n → D (G k) := fun h k hk => h.alln hbn hD hk
  rw [gpdq_0]
  refine ab_block_k fun K5 h5 => ?_
  obtain ⟨l, hl⟩ : ∃ l, l = b' - a' := ⟨_, rfl⟩
  have e1 : IntKind.i64.wrap ((b' : Int) - a') = l := by rw [wrap64 (by omega) (by omega)]; omega
  refine ab_seq_k fun K6 h6 => ?_
  simp [e1]
  refine h6 _ _ _ ?_
  clear h6 K6
  refine ab_seq_k fun K7 h7 => ?_
  refine ab_seq_k fun K8 h8 => ?_
  simp
  refine h8 _ _ _ ?_
  clear h8 K8
  by_cases h12 : l ≤ 12
  ·refine ab_cond_of rfl (fun _ => ?_) (fun h => by simp at h; omega)
   refine ab_seq_k fun K9 h9 => ?_
   simp
   refine callR_of (ins_ok hins hcmp (hGD hsw) hab' (by omega) hn' hda.at_) ?_
   rintro v σ2 ⟨rfl, H, s1, s2, s3⟩
   simp
   refine h9 _ _ _ ?_
   simp
   refine fin_Q ?_
   simp [grpdq]
   exact ⟨rfl, H, hsw.trans (s1.mono haa hbb), hout.fin haa hbb s1 s2, hda.trans s3⟩
  refine ab_cond_of rfl (fun h => by simp at h; omega) (fun _ => ?_)
  simp
  refine h7 _ _ _ ?_
  clear h7 K7
  refine ab_seq_k fun K7 h7 => ?_
  refine ab_seq_k fun K8 h8 => ?_
  simp
  refine h8 _ _ _ ?_
  clear h8 K8
  by_cases hl0 : l' = 0
  ·refine ab_cond_of rfl (fun _ => ?_) (fun h => by simp [hl0] at h)
   refine ab_seq_k fun K9 h9 => ?_
   simp
   refine callR_of (heap_ok hheap hsift hcmp (hGD hsw) (by omega) (by omega) hn' hda.at_) ?_
   rintro v σ2 ⟨rfl, H, s1, s2, s3⟩
   simp
   refine h9 _ _ _ ?_
   simp
   refine fin_Q ?_
   simp [grpdq]
   exact ⟨rfl, H, hsw.trans (s1.mono haa hbb), hout.fin haa hbb s1 s2, hda.trans s3⟩
  refine ab_cond_of rfl (fun h => by simp at h; omega) (fun _ => ?_)
  simp
  refine h7 _ _ _ ?_
  clear h7 K7
  refine ab_seq_k fun K10 h10 => ?_
  have hK10 : ∀ env (G : Nat → V) σ' (l2 : Nat), get env 0 = slV id ver n → get env 1 = .i .i64 a' → get env 2 = .i .i64 b' → get env 3 = .i .i64 l2 → get env 4 = cv → get env 10 = .b wb → get env 11 = .b wp → get env 12 = .i .i64 l → l2 ≤ 100 → Sw a b F G → Out lt a b a' b' G → DA σ id ver n G σ' → K10 (some 0) env σ' := by
   intro env G σ' l2 w0 w1 w2 w3 w4 w10 w11 w12 hl2 hsw hout hda
   refine h10 _ _ _ ?_
   clear h10
   have hend : ∀ env (a2 b2 : Nat) (wb wp : Bool) (G : Nat → V) σ', get env 0 = slV id ver n → get env 1 = .i .i64 a2 → get env 2 = .i .i64 b2 → get env 3 = .i .i64 l2 → get env 4 = cv → get env 10 = .b wb → get env 11 = .b wp → a' ≤ a2 → a2 ≤ b2 → b2 ≤ b' → b2 - a2 < b' - a' → Sw a b F G → Out lt a b a2 b2 G → DA σ id ver n G σ' → K5 (some 0) env σ' := by
    intro env a2 b2 wb wp G σ' w0 w1 w2 w3 w4 w10 w11 q1 q2 q3 q4 s1 s2 s3
    refine h5 _ _ _ (h4 _ _ _ (again _ ?_ ⟨a2, b2, l2, wb, wp, G, rfl, by omega, q2, by omega, hl2, by simp [w0, w1, w2, w3, w4, w10, w11], s1, s2, s3⟩))
    omega
   clear h4 h5
   refine ab_seq_k fun K13 h13 => ?_
   simp [w0, w1, w2, w3, w4, w10, w11, w12]
   refine callR_of (piv_ok hpiv hmadj hmed hord2 hcmp (hGD hsw) (by omega) (by omega) hn' hda.at_) ?_
   rintro v σ2 ⟨pv, hint, rfl, pv1, pv2, rfl⟩
   simp [w0, w1, w2, w3, w4, w10, w11, w12]
   refine h13 _ _ _ ?_
   clear h13 K13
   refine ab_seq_k fun K14 h14 => ?_
   have hK14 : ∀ env (G : Nat → V) σ' (pv : Nat) (hint : Int), get env 0 = slV id ver n → get env 1 = .i .i64 a' → get env 2 = .i .i64 b' → get env 3 = .i .i64 l2 → get env 4 = cv → get env 10 = .b wb → get env 11 = .b wp → get env 12 = .i .i64 l → get env 13 = .i .i64 pv → get env 14 = .i .i64 hint → a' ≤ pv → pv < b' → Sw a b F G → Out lt a b a' b' G → DA σ id ver n G σ' → K14 (some 0) env σ' := by
    intro env G σ' pv hint w0 w1 w2 w3 w4 w10 w11 w12 w13 w14 pv1 pv2 hsw hout hda
    refine h14 _ _ _ ?_
    clear h14
    refine ab_seq_k fun K15 h15 => ?_
    have hK15 : ∀ env (G : Nat → V) σ', get env 0 = slV id ver n → get env 1 = .i .i64 a' → get env 2 = .i .i64 b' → get env 3 = .i .i64 l2 → get env 4 = cv → get env 10 = .b wb → get env 11 = .b wp → get env 12 = .i .i64 l → get env 13 = .i .i64 pv → Sw a b F G → Out lt a b a' b' G → DA σ id ver n G σ' → K15 (some 0) env σ' := by
     intro env G σ' w0 w1 w2 w3 w4 w10 w11 w12 w13 hsw hout hda
     refine h15 _ _ _ ?_
     clear h15
     have hlf := hout.left haa (by omega) hbb hsw hleft
     have hat := hda.at_
     obtain ⟨hat1, hat'⟩ := List.getElem?_eq_some_iff.1 hat
     have hpn : pv < n := by omega
     have han : a' < n := by omega
     refine ab_seq_k fun K16 h16 => ?_
     have hK16 : ∀ env, get env 0 = slV id ver n → get env 1 = .i .i64 a' → get env 2 = .i .i64 b' → get env 3 = .i .i64 l2 → get env 4 = cv → get env 10 = .b wb → get env 11 = .b wp → get env 12 = .i .i64 l → get env 13 = .i .i64 pv → K16 (some 0) env σ' := by
      intro env w0 w1 w2 w3 w4 w10 w11 w12 w13
      refine h16 _ _ _ ?_
      clear h16
      refine ab_seq_k fun K17 h17 => ?_
      simp [w0, w1, w2, w3, w4, w10, w11, w12, w13]
      refine callR_of (par_ok hpar hcmp (hGD hsw) pv1 pv2 (by omega) hn' hda.at_) ?_
      rintro v σ2 ⟨mid, al, H, rfl, s1, s2, s3⟩
      simp [w0, w1, w2, w3, w4, w10, w11, w12, w13]
      refine h17 _ _ _ ?_
      clear h17 K17
      have hsw2 := hsw.trans (s1.mono haa hbb)
      have hda2 := hda.trans s3
      have sP := s2
      obtain ⟨m1, m2, mlo, mhi⟩ := s2
      obtain ⟨L, hL⟩ : ∃ L, L = mid - a' := ⟨_, rfl⟩
      obtain ⟨Rr, hR⟩ : ∃ R, R = b' - mid := ⟨_, rfl⟩
      obtain ⟨q8, hq8⟩ : ∃ q, q = l / 8 := ⟨_, rfl⟩
      have f1 : IntKind.i64.wrap ((mid : Int) - a') = L := by rw [wrap64 (by omega) (by omega)]; omega
      have f2 : IntKind.i64.wrap ((b' : Int) - mid) = Rr := by rw [wrap64 (by omega) (by omega)]; omega
      have f3 : IntKind.i64.wrap ((l : Int).tdiv 8) = q8 := by
       have : (l : Int).tdiv 8 = ((l / 8 : Nat) : Int) := rfl
       rw [this, wrap64 (by omega) (by omega), hq8]
      have f3' : IntKind.i64.wrap ((l : Int) / 8) = q8 := by rw [wrap64 (by omega) (by omega)]; omega
      have f4 := wrap64 (x := (mid : Int) + 1) (by omega) (by omega)
      refine ab_seq_k fun K18 h18 => ?_
      simp
      refine h18 _ _ _ ?_
      clear h18 K18
      refine ab_seq_k fun K19 h19 => ?_
      simp [f1, f2]
      refine h19 _ _ _ ?_
      clear h19 K19
      refine ab_seq_k fun K20 h20 => ?_
      simp [f3, f3']
      refine h20 _ _ _ ?_
      clear h20 K20
      refine ab_seq_k fun K21 h21 => ?_
      simp
      refine h21 _ _ _ ?_
      clear h21 K21
      by_cases hLR : L < Rr
      ·refine ab_cond_of rfl (fun _ => ?_) (fun h => by simp at h; omega)
       refine ab_seq_k fun K22 h22 => ?_
       simp
       refine h22 _ _ _ ?_
       clear h22 K22
       refine ab_seq_k fun K23 h23 => ?_
       simp
       have hl2' : a' = 0 ∨ ∀ k, a' ≤ k → k < mid → lt (H k) (H (a' - 1)) = false := by
        rcases (hout.sw haa hbb s1).left haa (by omega) hbb hsw2 hleft with h | h
        ·exact .inl h
        ·exact .inr fun k k1 k2 => h k k1 (by omega)
       refine callR_of (ih (lim := l2) (by omega) (hGD hsw2) m1 (by omega) hl2 hda2.at_ hl2') ?_
       rintro v σ3 ⟨rfl, H2, t1, t2, t3⟩
       simp
       refine h23 _ _ _ ?_
       simp [f4]
       have hsw3 := hsw2.trans (t1.mono haa (by omega))
       refine hend _ (mid + 1) b' (decide (q8 ≤ L)) al H2 _ rfl rfl rfl rfl rfl (by simp) rfl (by omega) (by omega) (by omega) (by omega) hsw3 (hout.low hcmp (fun k hk => hGD hsw3 k (by omega)) haa hbb s1 sP t1 t2) (hda2.trans t3)
      ·refine ab_cond_of rfl (fun h => by simp at h; omega) (fun _ => ?_)
       refine ab_seq_k fun K22 h22 => ?_
       simp
       refine h22 _ _ _ ?_
       clear h22 K22
       refine ab_seq_k fun K23 h23 => ?_
       simp [f4]
       have hl2' : mid + 1 = 0 ∨ ∀ k, mid + 1 ≤ k → k < b' → lt (H k) (H (mid + 1 - 1)) = false := .inr fun k k1 k2 => mhi k (by omega) k2
       refine callR_of (ih (lim := l2) (a := mid + 1) (by omega) (hGD hsw2) (by omega) (by omega) hl2 hda2.at_ hl2') ?_
       rintro v σ3 ⟨rfl, H2, t1, t2, t3⟩
       simp
       refine h23 _ _ _ ?_
       simp
       have hsw3 := hsw2.trans (t1.mono (by omega) hbb)
       refine hend _ a' mid (decide (q8 ≤ Rr)) al H2 _ rfl rfl rfl rfl rfl (by simp) rfl (by omega) (by omega) (by omega) (by omega) hsw3 (hout.high hcmp (fun k hk => hGD hsw3 k (by omega)) haa hbb s1 sP t1 t2) (hda2.trans t3)
     clear h16
     refine ab_seq_k fun K17 h17 => ?_
     by_cases ha0 : 0 < a'
     ·obtain ⟨x, hx⟩ : ∃ x, x + 1 = a' := ⟨a' - 1, by omega⟩
      have hxn : x < n := by omega
      have f1 : IntKind.i64.wrap ((a' : Int) - 1) = x := by rw [wrap64 (by omega) (by omega)]; omega
      simp [abDs_consU, drU, recheck_cons, recheck_nil, rcK, IS.dst, w0, w1, w2, w3, w4, w10, w11, w12, w13, ha0, f1, hat, hat', hxn, hpn, rowV_get]
      refine callv_cmp hcmp (hGD hsw _ hxn) (hGD hsw _ hpn) fun c hcc => ?_
      simp [abDs_consU, drU, recheck_cons, recheck_nil, rcK, IS.dst, hcc, w0, w1, w2, w3, w4, w10, w11, w12, w13]
      refine h17 _ _ _ ?_
      clear h17
      cases hlx : lt (G x) (G pv) with
      | true =>
       refine ab_cond_of rfl (fun h => by cases h) (fun _ => ?_)
       simp
       exact hK16 _ rfl rfl rfl rfl rfl rfl rfl rfl rfl
      | false =>
       refine ab_cond_of rfl (fun _ => ?_) (fun h => by cases h)
       refine ab_seq_k fun K18 h18 => ?_
       simp
       refine callR_of (peq_ok hpeq hcmp (hGD hsw) pv1 pv2 (by omega) hn' hda.at_) ?_
       rintro v σ2 ⟨mid, H, rfl, s1, s2, s3, s4, s5, s6, s7⟩
       simp
       refine h18 _ _ _ ?_
       clear h18 K18
       refine ab_seq_k fun K19 h19 => ?_
       simp
       refine h19 _ _ _ ?_
       clear h19 K19
       simp
       have hsw2 := hsw.trans (s1.mono haa hbb)
       have hge : ∀ k, a' ≤ k → k < b' → lt (G k) (G pv) = false := by
        rcases hlf with h | h
        ·omega
        ·intro k k1 k2
         have := h k k1 k2
         rw [show a' - 1 = x by omega] at this
         exact hcmp.ntr _ _ _ (hGD hsw k (by omega)) (hGD hsw x hxn) (hGD hsw pv hpn) this hlx
       refine hend _ mid b' wb wp H _ rfl rfl rfl rfl rfl rfl rfl (by omega) (by omega) (by omega) (by omega) hsw2 (hout.eq hcmp (fun k hk => hGD hsw2 k (by omega)) haa hbb s1 s3 s4 s5 (fun k k1 k2 => by rw [s2]; exact s1.all (p := fun x => lt x (G pv) = false) hge k1 k2)) (hda.trans s7)
     ·simp [abDs_consU, drU, recheck_cons, recheck_nil, rcK, IS.dst, w0, w1, w2, w3, w4, w10, w11, w12, w13, ha0]
      refine h17 _ _ _ ?_
      clear h17
      refine ab_cond_of rfl (fun h => by cases h) (fun _ => ?_)
      simp
      exact hK16 _ rfl rfl rfl rfl rfl rfl rfl rfl rfl
    clear h15
    refine ab_seq_k fun K16 h16 => ?_
    have hK16 : ∀ env c, get env 0 = slV id ver n → get env 1 = .i .i64 a' → get env 2 = .i .i64 b' → get env 3 = .i .i64 l2 → get env 4 = cv → get env 10 = .b wb → get env 11 = .b wp → get env 12 = .i .i64 l → get env 13 = .i .i64 pv → get env 75 = .b c → K16 (some 0) env σ' := by
     intro env c w0 w1 w2 w3 w4 w10 w11 w12 w13 w75
     refine h16 _ _ _ ?_
     clear h16
     cases c with
     | false =>
      refine ab_cond_of w75 (fun h => by cases h) (fun _ => ?_)
      simp
      exact hK15 _ G _ w0 w1 w2 w3 w4 w10 w11 w12 w13 hsw hout hda
     | true =>
      refine ab_cond_of w75 (fun _ => ?_) (fun h => by cases h)
      refine ab_seq_k fun K17 h17 => ?_
      simp [w0, w1, w2, w3, w4, w10, w11, w12, w13]
      refine callR_of (pis_ok hpis hcmp (hGD hsw) (by omega) (by omega) hn' hda.at_ (hout.left haa (by omega) hbb hsw hleft)) ?_
      rintro v σ2 ⟨r, H, rfl, s1, s2, s3⟩
      simp [w0, w1, w2, w3, w4, w10, w11, w12, w13]
      refine h17 _ _ _ ?_
      cases r with
      | true =>
       refine ab_cond_of rfl (fun _ => ?_) (fun h => by cases h)
       simp
       refine fin_Q ?_
       simp [grpdq]
       exact ⟨rfl, H, hsw.trans (s1.mono haa hbb), hout.fin haa hbb s1 (s2 rfl), hda.trans s3⟩
      | false =>
       refine ab_cond_of rfl (fun h => by cases h) (fun _ => ?_)
       simp
       exact hK15 _ H _ rfl rfl rfl rfl rfl rfl rfl rfl rfl (hsw.trans (s1.mono haa hbb)) (hout.sw haa hbb s1) (hda.trans s3)
    clear h16 hK15
    cases wb with
    | false =>
     simp [w0, w1, w2, w3, w4, w10, w11, w12, w13, w14]
     exact hK16 _ false rfl rfl rfl rfl rfl rfl rfl rfl rfl rfl
    | true =>
     cases wp with
     | false =>
      simp [w0, w1, w2, w3, w4, w10, w11, w12, w13, w14]
      exact hK16 _ false rfl rfl rfl rfl rfl rfl rfl rfl rfl rfl
     | true =>
      simp [w0, w1, w2, w3, w4, w10, w11, w12, w13, w14]
      exact hK16 _ _ rfl rfl rfl rfl rfl rfl rfl rfl rfl rfl
   clear h14
   refine ab_seq_k fun K15 h15 => ?_
   simp
   refine h15 _ _ _ ?_
   clear h15 K15
   by_cases hh2 : hint = 2
   ·refine ab_cond_of rfl (fun _ => ?_) (fun h => by simp [hh2] at h)
    refine ab_seq_k fun K16 h16 => ?_
    simp
    refine callR_of (rev_ok hrev hcmp (hGD hsw) (by omega) (by omega) hn' hda.at_) ?_
    rintro v σ3 ⟨rfl, H, s1, -, s3⟩
    simp
    refine h16 _ _ _ ?_
    clear h16 K16
    obtain ⟨d, hd⟩ : ∃ d, d = pv - a' := ⟨_, rfl⟩
    obtain ⟨b1, hb1⟩ : ∃ b1, b1 + 1 = b' := ⟨b' - 1, by omega⟩
    have f1 : IntKind.i64.wrap ((b' : Int) - 1) = b1 := by rw [wrap64 (by omega) (by omega)]; omega
    have f2 : IntKind.i64.wrap ((pv : Int) - a') = d := by rw [wrap64 (by omega) (by omega)]; omega
    have f3 : IntKind.i64.wrap ((b1 : Int) - d) = ((b1 - d : Nat) : Int) := by rw [wrap64 (by omega) (by omega)]; omega
    refine ab_seq_k fun K17 h17 => ?_
    simp [f1, f2, f3]
    refine h17 _ _ _ ?_
    clear h17 K17
    simp
    exact hK14 _ H _ (b1 - d) 1 rfl rfl rfl rfl rfl rfl rfl rfl rfl rfl (by omega) (by omega) (hsw.trans (s1.mono haa hbb)) (hout.sw haa hbb s1) (hda.trans s3)
   ·refine ab_cond_of rfl (fun h => by simp [hh2] at h) (fun _ => ?_)
    simp
    exact hK14 _ G _ pv hint rfl rfl rfl rfl rfl rfl rfl rfl rfl rfl pv1 pv2 hsw hout hda
  clear h10
  refine ab_seq_k fun K11 h11 => ?_
  simp
  refine h11 _ _ _ ?_
  cases wb with
  | true =>
   refine ab_cond_of rfl (fun h => by cases h) (fun _ => ?_)
   simp
   exact hK10 _ G _ l' rfl rfl rfl rfl rfl rfl rfl rfl hl' hsw hout hda
  | false =>
   refine ab_cond_of rfl (fun _ => ?_) (fun h => by cases h)
   refine ab_seq_k fun K12 h12 => ?_
   simp
   refine callR_of (brk_ok hbrk hcmp (hGD hsw) (by omega) (by omega) hn hda.at_) ?_
   rintro v σ2 ⟨rfl, H, s1, s2, s3⟩
   simp
   refine h12 _ _ _ ?_
   have e2 : IntKind.i64.wrap ((l' : Int) - 1) = ((l' - 1 : Nat) : Int) := by rw [wrap64 (by omega) (by omega)]; omega
   simp [e2]
   exact hK10 _ H _ (l' - 1) rfl rfl rfl rfl rfl rfl rfl rfl (by omega) (hsw.trans (s1.mono haa hbb)) (hout.sw haa hbb s1) (hda.trans s3)
end
end Go.Ab
end
section
namespace Go.Ab
open Go Go.Proofs
def pc (s : Nat) : Nat := (bl s 16).length
end Go.Ab
end
section
section
namespace Go.Ab
open Go Go.Proofs
def cmpI (x y : Int) : Int := if x < y then -1 else if y < x then 1 else 0
def lexC : List Int → List Int → Int
 | [], [] => 0
 | [], _ :: _ => -1
 | _ :: _, [] => 1
 | a :: at_, b :: bt_ => if a < b then -1 else if b < a then 1 else lexC at_ bt_
def lexL : List Int → List Int → Bool
 | [], [] => false
 | [], _ :: _ => true
 | _ :: _, [] => false
 | a :: at_, b :: bt_ => if a < b then true else if b < a then false else lexL at_ bt_
theorem lexC_lt : ∀ {a b : List Int}, decide (lexC a b < 0) = lexL a b
 | [], [] => rfl
 | [], _ :: _ => rfl
 | _ :: _, [] => rfl
 | a :: at_, b :: bt_ => by
  simp only [lexC, lexL]
  split
  ·rfl
  ·split
   ·rfl
   ·exact lexC_lt
theorem lexL_asym : ∀ {a b : List Int}, lexL a b = true → lexL b a = false
 | [], [], h => rfl
 | [], _ :: _, h => rfl
 | _ :: _, [], h => by cases h
 | a :: at_, b :: bt_, h => by
  simp only [lexL] at h ⊢
  split at h
  ·rw [if_neg (by omega), if_pos (by omega)]
  ·split at h
   ·cases h
   ·rw [if_neg (by omega), if_neg (by omega)]; exact lexL_asym h
theorem lexL_tri : ∀ {a b : List Int}, lexL a b = false → lexL b a = false → a = b
 | [], [], _, _ => rfl
 | [], _ :: _, h, _ => by cases h
 | _ :: _, [], _, h => by cases h
 | a :: at_, b :: bt_, h1, h2 => by
  simp only [lexL] at h1 h2
  by_cases c1 : a < b
  ·rw [if_pos c1] at h1; cases h1
  ·by_cases c2 : b < a
   ·rw [if_pos c2] at h2; cases h2
   ·rw [if_neg c1, if_neg c2] at h1
    rw [if_neg c2, if_neg c1] at h2
    rw [lexL_tri h1 h2, show a = b by omega]
theorem lexL_trans : ∀ {a b c : List Int}, lexL a b = true → lexL b c = true → lexL a c = true
 | [], [], _, h, _ => by cases h
 | [], _ :: _, [], _, h => by cases h
 | [], _ :: _, _ :: _, _, _ => rfl
 | _ :: _, [], _, h, _ => by cases h
 | _ :: _, _ :: _, [], _, h => by cases h
 | a :: at_, b :: bt_, c :: ct_, h1, h2 => by
  simp only [lexL] at h1 h2 ⊢
  by_cases c1 : a < b
  ·by_cases c2 : b < c
   ·rw [if_pos (by omega)]
   ·rw [if_neg c2] at h2
    by_cases c3 : c < b
    ·rw [if_pos c3] at h2; cases h2
    ·rw [if_pos (by omega)]
  ·rw [if_neg c1] at h1
   by_cases c2 : b < a
   ·rw [if_pos c2] at h1; cases h1
   ·rw [if_neg c2] at h1
    by_cases c3 : b < c
    ·rw [if_pos (by omega)]
    ·rw [if_neg c3] at h2
     by_cases c4 : c < b
     ·rw [if_pos c4] at h2; cases h2
     ·rw [if_neg c4] at h2
      rw [if_neg (by omega), if_neg (by omega)]
      exact lexL_trans h1 h2
theorem ntr_of {α : Type} {r : α → α → Bool} (has : ∀ a b, r a b = true → r b a = false) (htri : ∀ a b, r a b = false → r b a = false → a = b) (htr : ∀ a b c, r a b = true → r b c = true → r a c = true) {a b c : α} (h1 : r a b = false) (h2 : r b c = false) : r a c = false := by
 cases h3 : r b a with
 | false => rw [htri a b h1 h3]; exact h2
 | true =>
  cases h4 : r c b with
  | false => rw [← htri b c h2 h4]; exact h1
  | true => exact has _ _ (htr _ _ _ h4 h3)
theorem lexL_ntr {a b c : List Int} (h1 : lexL a b = false) (h2 : lexL b c = false) : lexL a c = false := ntr_of (fun _ _ => lexL_asym) (fun _ _ => lexL_tri) (fun _ _ _ => lexL_trans) h1 h2
theorem nan120 {x : Int} {σ : List O} : FSpec Tryz.prog 120 [.i .i64 x] σ (.b false) σ := by
 refine FSpec.frame (σ := σ) ?_ rfl rfl
 refine fn120.spec0 mixed noIt_ok ?_
 rw [ic120]
 refine ab_seq_k fun K1 h1 => ?_
 simp
 refine h1 _ _ _ ?_
 clear h1 K1
 refine ab_seq_k fun K2 h2 => ?_
 simp
 refine h2 _ _ _ ?_
 clear h2 K2
 simp
 exact fin_of 1 (by simp [rs120])
theorem cmp105 {x y : Int} {σ : List O} : FSpec Tryz.prog 105 [.i .i64 x, .i .i64 y] σ (.i .i64 (cmpI x y)) σ := by
 refine FSpec.frame (σ := σ) ?_ rfl rfl
 refine fn105.spec0 mixed noIt_ok ?_
 rw [ic105]
 refine ab_seq_k fun K1 h1 => ?_
 simp
 refine h1 _ _ _ ?_
 clear h1 K1
 refine ab_seq_k fun K2 h2 => ?_
 simp
 refine callK_of (nan120) ?_
 simp
 refine h2 _ _ _ ?_
 clear h2 K2
 refine ab_seq_k fun K3 h3 => ?_
 simp
 refine callK_of (nan120) ?_
 simp
 refine h3 _ _ _ ?_
 clear h3 K3
 refine ab_seq_k fun K4 h4 => ?_
 refine ab_seq_k fun K5 h5 => ?_
 simp
 refine h5 _ _ _ ?_
 clear h5 K5
 refine ab_cond_of rfl (fun h => by cases h) (fun _ => ?_)
 simp
 refine h4 _ _ _ ?_
 clear h4 K4
 refine ab_seq_k fun K4 h4 => ?_
 refine ab_seq_k fun K5 h5 => ?_
 simp
 refine h5 _ _ _ ?_
 clear h5 K5
 refine ab_cond_of rfl (fun h => by cases h) (fun _ => ?_)
 simp
 refine h4 _ _ _ ?_
 clear h4 K4
 refine ab_seq_k fun K4 h4 => ?_
 refine ab_seq_k fun K5 h5 => ?_
 simp
 refine h5 _ _ _ ?_
 clear h5 K5
 by_cases c1 : x < y
 ·refine ab_cond_of rfl (fun _ => ?_) (fun h => by simp [c1] at h)
  refine ab_seq_k fun K6 h6 => ?_
  simp
  refine h6 _ _ _ ?_
  clear h6 K6
  simp
  exact fin_of 1 (by simp [rs105, cmpI, c1])
 ·refine ab_cond_of rfl (fun h => by simp [c1] at h) (fun _ => ?_)
  simp
  refine h4 _ _ _ ?_
  clear h4 K4
  refine ab_seq_k fun K4 h4 => ?_
  refine ab_seq_k fun K5 h5 => ?_
  simp
  refine h5 _ _ _ ?_
  clear h5 K5
  by_cases c2 : y < x
  ·refine ab_cond_of rfl (fun _ => ?_) (fun h => by simp [c2] at h)
   refine ab_seq_k fun K6 h6 => ?_
   simp
   refine h6 _ _ _ ?_
   clear h6 K6
   simp
   exact fin_of 1 (by simp [rs105, cmpI, c1, c2])
  ·refine ab_cond_of rfl (fun h => by simp [c2] at h) (fun _ => ?_)
   simp
   refine h4 _ _ _ ?_
   refine ab_seq_k fun K6 h6 => ?_
   simp
   refine h6 _ _ _ ?_
   clear h6 K6
   simp
   exact fin_of 1 (by simp [rs105, cmpI, c1, c2])
theorem lex106 {a b : List Int} {fa fb : Bool} {σ : List O} (ha : (a.length : Int) < 1000000000) : FSpec Tryz.prog 106 [sl a fa, sl b fb] σ (.i .i64 (lexC a b)) σ := by
 refine FSpec.frame (σ := σ) ?_ (by simp) rfl
 refine fn106.spec0 mixed noIt_ok ?_
 rw [ic106]
 refine ab_seq_k fun K1 h1 => ?_
 simp
 refine h1 _ _ _ ?_
 clear h1 K1
 refine ab_seq_k fun K2 h2 => ?_
 refine ab_seq_k fun K3 h3 => ?_
 simp
 refine h3 _ _ _ ?_
 clear h3 K3
 refine ab_block_k fun K4 h4 => ?_
 refine ab_loop_k (fun m env σ => ∃ i : Nat, i + m = a.length ∧ lexC a b = lexC (a.drop i) (b.drop i) ∧ i ≤ b.length ∧ env = [(0, sl a fa), (1, sl b fb), (9, sl a fa), (10, .i .i64 a.length), (11, .i .i64 i)] ∧ σ = []) a.length ⟨0, by omega, by simp, by omega, by simp, rfl⟩ ?_
 rintro m env σ ⟨i, hi, hd, hib, rfl, rfl⟩ K5 h5
 rw [ic106_0]
 refine ab_seq_k fun K6 h6 => ?_
 simp
 refine h6 _ _ _ ?_
 clear h6 K6
 refine ab_seq_k fun K7 h7 => ?_
 refine ab_cond_of rfl (fun hc => ?_) (fun hc => ?_)
 ·have hil : i < a.length := by simpa using hc
  obtain ⟨a1, a2, -⟩ := getD_get hil
  rw [List.drop_eq_getElem_cons hil, a2] at hd
  generalize a.getD i 0 = x at *
  simp
  refine h7 _ _ _ ?_
  clear h7 K7
  refine ab_seq_k fun K8 h8 => ?_
  refine ab_block_k fun K9 h9 => ?_
  refine ab_seq_k fun K10 h10 => ?_
  simp [hil, a1, a2]
  refine h10 _ _ _ ?_
  clear h10 K10
  refine ab_seq_k fun K11 h11 => ?_
  refine ab_seq_k fun K12 h12 => ?_
  simp
  refine h12 _ _ _ ?_
  clear h12 K12
  by_cases hbl : i < b.length
  ·obtain ⟨b1, b2, -⟩ := getD_get hbl
   rw [List.drop_eq_getElem_cons hbl, b2] at hd
   generalize b.getD i 0 = y at *
   refine ab_cond_of rfl (fun h => by simp at h; omega) (fun _ => ?_)
   simp
   refine h11 _ _ _ ?_
   clear h11 K11
   refine ab_seq_k fun K13 h13 => ?_
   simp [hbl, b1, b2]
   refine h13 _ _ _ ?_
   clear h13 K13
   refine ab_seq_k fun K14 h14 => ?_
   simp
   refine callK_of (cmp105) ?_
   simp
   refine h14 _ _ _ ?_
   clear h14 K14
   refine ab_seq_k fun K15 h15 => ?_
   simp
   refine h15 _ _ _ ?_
   clear h15 K15
   simp only [lexC] at hd
   by_cases c1 : x < y
   ·rw [if_pos c1] at hd
    have hcv : cmpI x y = -1 := by simp [cmpI, c1]
    rw [hcv]
    refine ab_cond_of rfl (fun _ => ?_) (fun h => by simp at h)
    refine ab_seq_k fun K16 h16 => ?_
    simp
    refine h16 _ _ _ ?_
    clear h16 K16
    simp
    exact fin_of 1 (by simp [rs106, hd])
   ·rw [if_neg c1] at hd
    by_cases c2 : y < x
    ·rw [if_pos c2] at hd
     have hcv : cmpI x y = 1 := by simp [cmpI, c1, c2]
     rw [hcv]
     refine ab_cond_of rfl (fun _ => ?_) (fun h => by simp at h)
     refine ab_seq_k fun K16 h16 => ?_
     simp
     refine h16 _ _ _ ?_
     clear h16 K16
     simp
     exact fin_of 1 (by simp [rs106, hd])
    ·rw [if_neg c2] at hd
     have hcv : cmpI x y = 0 := by simp [cmpI, c1, c2]
     rw [hcv]
     refine ab_cond_of rfl (fun h => by simp at h) (fun _ => ?_)
     simp
     refine h9 _ _ _ (h8 _ _ _ ?_)
     simp [wrap64 (x := (i : Int) + 1) (by omega) (by omega)]
     exact h5 _ _ _ (again (m - 1) (by omega) ⟨i + 1, by omega, hd, by omega, by simp, rfl⟩)
  ·have hbe : b.drop i = [] := List.drop_of_length_le (by omega)
   rw [hbe] at hd
   refine ab_cond_of rfl (fun _ => ?_) (fun h => by simp at h; omega)
   refine ab_seq_k fun K13 h13 => ?_
   simp
   refine h13 _ _ _ ?_
   clear h13 K13
   simp
   exact fin_of 1 (by simp [rs106, hd, lexC])
 ·have hil : a.length ≤ i := by simp at hc; omega
  rw [List.drop_of_length_le hil] at hd
  simp
  refine h4 _ _ _ (h2 _ _ _ ?_)
  clear h2 h4 h5 h7
  refine ab_seq_k fun K8 h8 => ?_
  refine ab_seq_k fun K9 h9 => ?_
  simp
  refine h9 _ _ _ ?_
  clear h9 K9
  by_cases hl : a.length < b.length
  ·have hne : b.drop i ≠ [] := by rw [Ne, List.drop_eq_nil_iff]; omega
   refine ab_cond_of rfl (fun _ => ?_) (fun h => by simp [hl] at h)
   refine ab_seq_k fun K10 h10 => ?_
   simp
   refine h10 _ _ _ ?_
   clear h10 K10
   simp
   refine fin_of 1 ?_
   cases hb : b.drop i with
   | nil => exact absurd hb hne
   | cons y r => rw [hb] at hd; simp [rs106, hd, lexC]
  ·have hbe : b.drop i = [] := List.drop_of_length_le (by omega)
   refine ab_cond_of rfl (fun h => by simp [hl] at h) (fun _ => ?_)
   simp
   refine h8 _ _ _ ?_
   refine ab_seq_k fun K10 h10 => ?_
   simp
   refine h10 _ _ _ ?_
   clear h10 K10
   simp
   exact fin_of 1 (by simp [rs106, hd, hbe, lexC])
def u16V (s : Nat) : V := .i .u16 (s : Int)
def listV (s : Nat) : V := sl (bl s 12) ((bl s 12).length == 0)
def unU : V → Nat
 | .i _ x => x.toNat
 | _ => 0
def unL : V → List Int
 | .ss cs _ _ => cs.map fun v => match v with | .i _ x => x | _ => 0
 | _ => []
theorem unL_list {l : List Int} {f : Bool} : unL (sl l f) = l := by
 simp only [unL, ints, List.map_map]
 exact List.map_id'' (fun _ => rfl) l
def DL (v : V) : Prop := ∃ s, s < 2 ^ 12 ∧ v = listV s
theorem cmpL : CmpOK (.f (.func 106) [] []) DL (fun x y => lexL (unL x) (unL y)) where
 call := ⟨106, [], [], rfl, fun x y σ ⟨s, hs, e1⟩ ⟨t, ht, e2⟩ => by
  subst e1; subst e2
  exact ⟨_, lex106 (by have := bl_len (s := s) (k := 12); omega), by rw [lexC_lt]; simp only [listV, unL_list]⟩⟩
 asym := fun x y _ _ h => lexL_asym h
 ntr := fun x y z _ _ _ h1 h2 => lexL_ntr h1 h2
 one := fun x ⟨s, _, e⟩ => by rw [e]; rfl
 pure := fun x ⟨s, _, e⟩ => by rw [e]; simp [listV]
end Go.Ab
end
section
namespace Go.Ab
open Go Go.Proofs
theorem perm_sorted_eq {α : Type} {le : α → α → Prop} : ∀ {l m : List α}, l.Perm m → l.Pairwise le → m.Pairwise le → (∀ x ∈ l, ∀ y ∈ l, le x y → le y x → x = y) → l = m
 | [], m, h, _, _, _ => by have := h.length_eq; cases m with | nil => rfl | cons => simp at this
 | x :: l, [], h, _, _, _ => by have := h.length_eq; simp at this
 | x :: l, y :: m, h, h1, h2, ha => by
  rw [List.pairwise_cons] at h1 h2
  have hxy : x = y := by
   have hx := h.mem_iff.1 (List.mem_cons_self ..)
   have hy := h.mem_iff.2 (List.mem_cons_self ..)
   rw [List.mem_cons] at hx hy
   rcases hx with hx | hx
   ·exact hx
   ·rcases hy with hy | hy
    ·exact hy.symm
    ·exact ha x (List.mem_cons_self ..) y (List.mem_cons_of_mem _ hy) (h1.1 y hy) (h2.1 x hx)
  subst hxy
  rw [perm_sorted_eq (List.Perm.cons_inv h) h1.2 h2.2 fun a ha' b hb => ha a (List.mem_cons_of_mem _ ha') b (List.mem_cons_of_mem _ hb)]
theorem rowV_getD {n : Nat} {L : List V} (h : L.length = n) : rowV n (fun k => L.getD k .u) = L := by
 apply List.ext_getElem?
 intro i
 by_cases hi : i < n
 ·rw [rowV_get hi, List.getD_eq_getElem?_getD, List.getElem?_eq_getElem (by omega)]; rfl
 ·rw [List.getElem?_eq_none (by simpa using hi), List.getElem?_eq_none (by omega)]
theorem Srt.pairwise {lt : V → V → Bool} {n : Nat} {G : Nat → V} (h : Srt lt 0 n G) : (rowV n G).Pairwise (fun x y => lt y x = false) := by
 unfold rowV
 rw [List.pairwise_map]
 refine List.Pairwise.imp_of_mem ?_ List.pairwise_lt_range
 intro i j hi hj hij
 exact h i j (Nat.zero_le _) hij (List.mem_range.1 hj)
section
variable {cv : V} {D : V → Prop} {lt : V → V → Bool}
theorem ins_none {f : FuncId} {fn : Func} {ex : List Nat} (hf : Fn_ Tryz.prog f fn ex gins grins) {v : V} {σ : List O} : FSpecQ Tryz.prog f [v, .i .i64 0, .i .i64 0, cv] σ (fun w σ' => w = .tup [] ∧ σ' = σ) := by
 refine hf.specQ mixed noIt_ok ?_
 rw [gins]
 refine ab_seq_k fun K1 h1 => ?_
 simp [wrap64 (x := 1) (by omega) (by omega)]
 refine h1 _ _ _ ?_
 clear h1 K1
 refine ab_block_k fun K2 h2 => ?_
 refine ab_loop_k (fun m env σ' => env = [(0, v), (1, .i .i64 0), (2, .i .i64 0), (3, cv), (8, .i .i64 1)] ∧ σ' = σ) 0 ⟨by simp, rfl⟩ ?_
 rintro m env σ' ⟨rfl, rfl⟩ K3 h3
 rw [gins_1]
 refine ab_seq_k fun K4 h4 => ?_
 refine ab_seq_k fun K5 h5 => ?_
 simp
 refine h5 _ _ _ ?_
 clear h5 K5
 refine ab_cond_of rfl (fun h => by cases h) (fun _ => ?_)
 simp
 refine h2 _ _ _ (fin_Q ?_)
 simp [grins]
theorem pdq_none {pdqF insF heapF brkF pivF revF pisF peqF parF siftF madjF medF ord2F : FuncId} (hS : SortFns pdqF insF heapF brkF pivF revF pisF peqF parF siftF madjF medF ord2F) {v : V} {l : Int} {σ : List O} : FSpecQ Tryz.prog pdqF [v, .i .i64 0, .i .i64 0, .i .i64 l, cv] σ (fun w σ' => w = .tup [] ∧ σ' = σ) := by
 obtain ⟨_, _, hpdq⟩ := hS.pdq
 obtain ⟨_, _, hins⟩ := hS.ins
 refine hpdq.specQ mixed noIt_ok ?_
 rw [gpdq]
 refine ab_seq_k fun K1 h1 => ?_
 simp
 refine h1 _ _ _ ?_
 clear h1 K1
 refine ab_seq_k fun K2 h2 => ?_
 simp
 refine h2 _ _ _ ?_
 clear h2 K2
 refine ab_block_k fun K3 h3 => ?_
 refine ab_loop_k (fun m env σ' => env = [(0, v), (1, .i .i64 0), (2, .i .i64 0), (3, .i .i64 l), (4, cv), (10, .b true), (11, .b true)] ∧ σ' = σ) 0 ⟨by simp, rfl⟩ ?_
 rintro m env σ' ⟨rfl, rfl⟩ K4 h4
 rw [gpdq_0]
 refine ab_block_k fun K5 h5 => ?_
 refine ab_seq_k fun K6 h6 => ?_
 simp [wrap64 (x := 0) (by omega) (by omega)]
 refine h6 _ _ _ ?_
 clear h6 K6
 refine ab_seq_k fun K7 h7 => ?_
 refine ab_seq_k fun K8 h8 => ?_
 simp
 refine h8 _ _ _ ?_
 refine ab_cond_of rfl (fun _ => ?_) (fun h => by cases h)
 refine ab_seq_k fun K9 h9 => ?_
 simp
 refine callR_of (ins_none hins) ?_
 rintro w σ2 ⟨rfl, rfl⟩
 simp
 refine h9 _ _ _ ?_
 simp
 refine fin_Q ?_
 simp [grpdq]
theorem srt_ok {srtF pdqF insF heapF brkF pivF revF pisF peqF parF siftF madjF medF ord2F : FuncId} (hS : SortFns pdqF insF heapF brkF pivF revF pisF peqF parF siftF madjF medF ord2F) {fn : Func} {ex : List Nat} (hsrt : Fn_ Tryz.prog srtF fn ex (gsrt pdqF) grsrt) (hcmp : CmpOK cv D lt) {σ : List O} {id ver n : Nat} {F : Nat → V} (hn : n ≤ 60000) (hD : ∀ k, k < n → D (F k)) (hσ : σ[id]? = some (.row ver (rowV n F))) :
  FSpecQ Tryz.prog srtF [slV id ver n, cv] σ (SwQ σ id ver n 0 n F (Srt lt 0 n) (.tup [])) := by
 obtain ⟨hσ1, hσ'⟩ := List.getElem?_eq_some_iff.1 hσ
 refine hsrt.specQ mixed noIt_ok ?_
 rw [gsrt]
 obtain ⟨L, hL, hL1, -, -⟩ := len119 (x := n) (σ := σ) (by omega)
 refine ab_seq_k fun K1 h1 => ?_
 simp [hσ, hσ']
 refine h1 _ _ _ ?_
 clear h1 K1
 simp [wrapu64 (x := (n : Int)) (by omega) (by omega)]
 refine callR_of hL.toQ ?_
 rintro v σ' ⟨rfl, rfl⟩
 simp
 refine callR_of (pdq_ok hS hcmp hn (n + 1) (a := 0) (b := n) (lim := L) (by omega) hD (by omega) (by omega) (by omega) hσ (.inl rfl)) ?_
 rintro v σ' h
 simp
 refine fin_Q ?_
 obtain ⟨rfl, h2⟩ := h
 simp [grsrt]
 exact ⟨rfl, h2⟩
theorem srt_point {srtF pdqF insF heapF brkF pivF revF pisF peqF parF siftF madjF medF ord2F : FuncId} (hS : SortFns pdqF insF heapF brkF pivF revF pisF peqF parF siftF madjF medF ord2F) {fn : Func} {ex : List Nat} (hsrt : Fn_ Tryz.prog srtF fn ex (gsrt pdqF) grsrt) (hcmp : CmpOK cv D lt) (anti : ∀ x y, D x → D y → lt x y = false → lt y x = false → x = y) {σ : List O} {id ver n : Nat} {L S : List V} (hn : n ≤ 60000) (hln : L.length = n) (hD : ∀ x ∈ L, D x) (hp : S.Perm L) (hs : S.Pairwise (fun x y => lt y x = false)) (hσ : σ[id]? = some (.row ver L)) :
  FSpec Tryz.prog srtF [slV id ver n, cv] σ (.tup []) (σ.set id (.row ver S)) := by
 have e := rowV_getD hln
 rw [← e] at hσ
 have hD' : ∀ k, k < n → D (L.getD k .u) := fun k hk => by
  rw [List.getD_eq_getElem?_getD, List.getElem?_eq_getElem (by omega)]
  exact hD _ (List.getElem_mem _)
 refine FSpecQ.point ((srt_ok hS hsrt hcmp hn hD' hσ).imp ?_)
 rintro v σ' ⟨rfl, G, h1, h2, h3⟩
 refine ⟨rfl, ?_⟩
 rw [h3.is_]
 have hpg : (rowV n G).Perm L := by
  have := h1.perm (Nat.le_refl n)
  rwa [e] at this
 congr 2
 refine perm_sorted_eq (hpg.trans hp.symm) h2.pairwise hs fun x hx y hy a1 a2 => ?_
 exact anti x y (hD x (hpg.mem_iff.1 hx)) (hD y (hpg.mem_iff.1 hy)) a2 a1
theorem srt_nil {srtF pdqF insF heapF brkF pivF revF pisF peqF parF siftF madjF medF ord2F : FuncId} (hS : SortFns pdqF insF heapF brkF pivF revF pisF peqF parF siftF madjF medF ord2F) {fn : Func} {ex : List Nat} (hsrt : Fn_ Tryz.prog srtF fn ex (gsrt pdqF) grsrt) {σ : List O} : FSpec Tryz.prog srtF [.ss [] 0 true, cv] σ (.tup []) σ := by
 refine FSpecQ.point ?_
 refine hsrt.specQ mixed noIt_ok ?_
 rw [gsrt]
 obtain ⟨L, hL, hL1, -, -⟩ := len119 (x := 0) (σ := σ) (by omega)
 refine ab_seq_k fun K1 h1 => ?_
 simp
 refine h1 _ _ _ ?_
 clear h1 K1
 have w0 : IntKind.u64.wrap 0 = 0 := wrapu64 (by omega) (by omega)
 simp [w0]
 refine callR_of hL.toQ ?_
 rintro v σ' ⟨rfl, rfl⟩
 simp
 refine callR_of (pdq_none hS) ?_
 rintro v σ' ⟨rfl, rfl⟩
 simp
 refine fin_Q ?_
 simp [grsrt]
theorem srt_gr {srtF pdqF insF heapF brkF pivF revF pisF peqF parF siftF madjF medF ord2F : FuncId} (hS : SortFns pdqF insF heapF brkF pivF revF pisF peqF parF siftF madjF medF ord2F) {fn : Func} {ex : List Nat} (hsrt : Fn_ Tryz.prog srtF fn ex (gsrt pdqF) grsrt) (hcmp : CmpOK cv D lt) (anti : ∀ x y, D x → D y → lt x y = false → lt y x = false → x = y) {σ : List O} {v : V} {k n : Nat} {L S : List V} (hv : Gr k 1 σ v n L) (hn : n ≤ 60000) (hD : ∀ x ∈ L, D x) (hp : S.Perm L) (hs : S.Pairwise (fun x y => lt y x = false)) :
  ∃ σ', FSpec Tryz.prog srtF [v, cv] σ (.tup []) σ' ∧ Gr k 1 σ' v n S ∧ σ'.length = σ.length ∧ ∀ j, idOf v ≠ some j → σ'[j]? = σ[j]? := by
 have hl := hv.1
 rcases hv.cases with ⟨rfl, rfl, rfl⟩ | ⟨id, ver, hn0, hid, rfl, hσ, hlt⟩
 ·have : S = [] := List.Perm.eq_nil hp
  subst this
  exact ⟨σ, srt_nil hS hsrt, Gr.nil, rfl, fun _ _ => rfl⟩
 ·have hln : L.length = n := by simpa using hl
  refine ⟨_, srt_point hS hsrt hcmp anti hn hln hD hp hs hσ, ⟨by rw [hp.length_eq]; exact hl, .inr ⟨hn0, id, ver, hid, rfl, List.getElem?_set_self hlt⟩⟩, by simp, fun j hj => List.getElem?_set_ne (fun e => hj (by rw [← e]; rfl))⟩
end
theorem antiL : ∀ x y, DL x → DL y → lexL (unL x) (unL y) = false → lexL (unL y) (unL x) = false → x = y := by
 rintro x y ⟨s, hs, rfl⟩ ⟨t, ht, rfl⟩ h1 h2
 unfold listV at h1 h2 ⊢
 rw [unL_list, unL_list] at h1 h2
 rw [lexL_tri h1 h2]
theorem srtL {σ : List O} {v : V} {k n : Nat} {L S : List V} (hv : Gr k 1 σ v n L) (hn : n ≤ 60000) (hD : ∀ x ∈ L, DL x) (hp : S.Perm L) (hs : S.Pairwise (fun x y => lexL (unL y) (unL x) = false)) :
  ∃ σ', FSpec Tryz.prog 108 [v, .f (.func 106) [] []] σ (.tup []) σ' ∧ Gr k 1 σ' v n S ∧ σ'.length = σ.length ∧ ∀ j, idOf v ≠ some j → σ'[j]? = σ[j]? := srt_gr sortB_ gf108 cmpL antiL hv hn hD hp hs
end Go.Ab
end
end
section
section
namespace Go.Ab
open Go Go.Proofs
theorem FSpecQ.freeze {P : Program} {f : FuncId} {args : List V} {Q : V → List O → Prop} {w : V} (h : FSpecQ P f args [] Q) (hq : ∀ v σ', Q v σ' → ∃ k, frz k 0 σ' v = w) : FSpec P f args [] w [] := by
 refine ⟨h.1, fun C cargs hR ha => (h.2 C cargs hR ha).mono ?_⟩
 rintro e w' ⟨C', cv, v, σ', hQ, rfl, rfl, h1, h2, h3⟩
 obtain ⟨k, hk⟩ := hq v σ' hQ
 have hR0 := frzS_sound (n := 0) h1 k (Nat.zero_le _)
 have e0 : frzS k 0 σ' = [] := by simp [frzS]
 rw [e0] at hR0
 refine ⟨C'.trunc 0, cv, rfl, rfl, hR0, trunc_ext h2 hR.wf (by have := hR.len; simp at this; omega), ?_⟩
 rw [← hk]
 exact frz_sound h1 k h3
def looseTo (J : List Lg) (s : Nat) (i : Nat) : Bool := ((bl s 12).take i).any fun n => decide (left J (less s (2 ^ n.toNat)) = 0)
def tightB (J : List Lg) (s : Nat) : Bool := decide (left J s = 0) && !looseTo J s 12
def keysTo (J : List Lg) (i : Nat) : List Nat := (List.range i).filter (tightB J)
theorem keysTo_succ {J : List Lg} {i : Nat} : keysTo J (i + 1) = if tightB J i then keysTo J i ++ [i] else keysTo J i := by
 unfold keysTo
 rw [List.range_succ, List.filter_append]
 cases h : tightB J i <;> simp [h]
theorem keysTo_len {J : List Lg} {i : Nat} : (keysTo J i).length ≤ i := by
 have := List.length_filter_le (tightB J) (List.range i)
 rw [List.length_range] at this
 exact this
theorem looseTo_succ {J : List Lg} {s i : Nat} {x : Int} (h : (bl s 12)[i]? = some x) : looseTo J s (i + 1) = (looseTo J s i || decide (left J (less s (2 ^ x.toNat)) = 0)) := by
 unfold looseTo
 rw [List.take_add_one, h, List.any_append]
 simp
theorem less_lt {s b N : Nat} (h : s < 2 ^ N) : less s b < 2 ^ N := Nat.lt_of_le_of_lt less_le h
theorem keys77 {J : List Lg} {f : Bool} {σ : List O} (hN : J.length ≤ 12) : FSpecQ Tryz.prog 77 [heapV J f] σ (fun v σ' => Gr σ.length 1 σ' v (keysTo J (2 ^ J.length)).length (us (keysTo J (2 ^ J.length))) ∧ ∀ j, j < σ.length → σ'[j]? = σ[j]?) := by
 have hh : (cellsOf (heapV J f)) = some [heapV J f] := rfl
 have hst := fun σ s hs => stays67 (J := J) (f := f) (s := s) (σ := σ) hN hs
 have hat : ∀ σ, HeapAt J f (heapV J f) σ := fun σ => .inl ⟨_, _, rfl⟩
 have hpw := pow12 hN
 have hlb : ∀ s, s < 2 ^ J.length → s < 65536 := fun s h => by omega
 refine fn77.specQ mixed itT_ok ?_
 rw [ic77]
 generalize heapV J f = H at *
 refine ab_seq_k fun K1 h1 => ?_
 simp [hh]
 refine h1 _ _ _ ?_
 clear h1 K1
 refine ab_seq_k fun K2 h2 => ?_
 simp
 refine h2 _ _ _ ?_
 clear h2 K2
 refine ab_seq_k fun K3 h3 => ?_
 refine ab_seq_k fun K4 h4 => ?_
 simp
 refine callK_of (sets91 hh) ?_
 simp
 refine h4 _ _ _ ?_
 clear h4 K4
 refine ab_block_k fun K5 h5 => ?_
 generalize hL0 : σ.length = L0 at *
 generalize hW : 2 ^ J.length = W at *
 refine ⟨W, XSet, SetAt J f (L0 + 1 + 1) H, sets_it hN hW, fun i σ2 => (∀ j, j < L0 → σ2[j]? = σ[j]?) ∧ σ2[L0]? = some (.row 0 [H]) ∧ σ2[L0 + 1 + 1]? = some (.row 0 [H]) ∧ ∃ v, σ2[L0 + 1]? = some (.row 0 [v]) ∧ Gr (L0 + 3) 1 σ2 v (keysTo J i).length (us (keysTo J i)), fun i σ2 h => ⟨h.2.2.1, hat _⟩, ⟨?_, ?_, ?_, .ss [] 0 true, ?_, ?_⟩, ?_, ?_⟩
 ·intro j hj
  rw [List.getElem?_append_left (by omega)]
 ·rw [List.getElem?_append_right (by omega), hL0, Nat.sub_self]; rfl
 ·rw [List.getElem?_append_right (by omega), hL0, show L0 + 1 + 1 - L0 = 2 by omega]; rfl
 ·rw [List.getElem?_append_right (by omega), hL0, show L0 + 1 - L0 = 1 by omega]; rfl
 ·simpa [keysTo, us] using Gr.nil
 ·rintro i x σ2 g hi ⟨rfl, rfl⟩ ⟨qo, q0, q2, v, q1, hv⟩
  refine ⟨rfl, ?_⟩
  generalize hKR : roundK _ _ _ = KR
  rw [List.append_nil]
  simp
  rw [ic77_1]
  have hi16 := hlb i hi
  obtain ⟨hq0, q0'⟩ := List.getElem?_eq_some_iff.1 q0
  obtain ⟨hq1, q1'⟩ := List.getElem?_eq_some_iff.1 q1
  obtain ⟨hq2, -⟩ := List.getElem?_eq_some_iff.1 q2
  have hlen := bl_len (s := i) (k := 12)
  have hdone : ∀ σ3 v, (∀ j, j < L0 → σ3[j]? = σ[j]?) → σ3[L0]? = some (.row 0 [H]) → σ3[L0 + 1 + 1]? = some (.row 0 [H]) → σ3[L0 + 1]? = some (.row 0 [v]) → Gr (L0 + 3) 1 σ3 v (keysTo J (i + 1)).length (us (keysTo J (i + 1))) → ∀ env, KR (some 0) env σ3 := by
   intro σ3 v a0 a1 a2 a3 a4 env
   rw [← hKR]
   exact ⟨rfl, .inl ⟨a0, a1, a2, v, a3, a4⟩⟩
  clear hKR
  refine ab_block_k fun K16 h16 => ?_
  refine ab_seq_k fun K17 h17 => ?_
  simp
  refine h17 _ _ _ ?_
  clear h17 K17
  refine ab_seq_k fun K18 h18 => ?_
  refine ab_seq_k fun K19 h19 => ?_
  simp
  refine callK_of (list68 hi16) ?_
  simp
  refine h19 _ _ _ ?_
  clear h19 K19
  refine ab_block_k fun K20 h20 => ?_
  refine ab_loop_k (fun m env σ => ∃ n : Nat, n + m = (bl i 12).length ∧ env = [(1, .p L0 0 0), (3, .p (L0 + 1) 0 0), (4, .i .u16 i), (5, .b (looseTo J i n)), (12, sl (bl i 12) ((bl i 12).length == 0)), (13, .i .i64 (bl i 12).length), (14, .i .i64 n)] ∧ σ = σ2) (bl i 12).length ⟨0, by omega, by simp [looseTo], rfl⟩ ?_
  rintro m env σ3 ⟨n, hn, rfl, rfl⟩ K21 h21
  rw [ic77_0]
  refine ab_seq_k fun K22 h22 => ?_
  simp
  refine h22 _ _ _ ?_
  clear h22 K22
  refine ab_seq_k fun K23 h23 => ?_
  refine ab_cond_of rfl (fun hc => ?_) (fun hc => ?_)
  ·have hnl : n < (bl i 12).length := by simpa using hc
   obtain ⟨b1, b2, bm⟩ := getD_get hnl
   have hls := looseTo_succ (J := J) b1
   obtain ⟨x, hx12, hxe, hxb⟩ := bl_mem.1 bm
   generalize (bl i 12).getD n 0 = y at *
   subst hxe
   rw [Int.toNat_natCast] at hls
   have hp2 : 2 ^ x < 65536 := by
    have : 2 ^ x < 2 ^ 16 := Nat.pow_lt_pow_right (by omega) (by omega)
    omega
   have e3 := shl_nat' (m := x) (by omega)
   have e4 := andNot_nat (a := i) (b := 2 ^ x) hi16 hp2
   have hll : less i (2 ^ x) < W := by rw [← hW]; exact less_lt (by rw [hW]; exact hi)
   have hlk := left_lt (J := J) (s := less i (2 ^ x)) hN
   generalize hpw2 : 2 ^ x = pw at *
   simp
   refine h23 _ _ _ ?_
   clear h23 K23
   refine ab_seq_k fun K24 h24 => ?_
   refine ab_block_k fun K25 h25 => ?_
   refine ab_seq_k fun K26 h26 => ?_
   simp [hnl, b1, b2]
   refine h26 _ _ _ ?_
   clear h26 K26
   have hend : ∀ env, get env 1 = .p L0 0 0 → get env 3 = .p (L0 + 1) 0 0 → get env 4 = .i .u16 i → get env 5 = .b (looseTo J i (n + 1)) → get env 12 = sl (bl i 12) ((bl i 12).length == 0) → get env 13 = .i .i64 (bl i 12).length → get env 14 = .i .i64 n → K25 (some 0) env σ3 := by
    intro env w1 w3 w4 w5 w12 w13 w14
    refine h25 _ _ _ (h24 _ _ _ ?_)
    simp [w1, w3, w4, w5, w12, w13, w14, wrap64 (x := (n : Int) + 1) (by omega) (by omega)]
    exact h21 _ _ _ (again (m - 1) (by omega) ⟨n + 1, by omega, by simp, rfl⟩)
   clear h24 h25 h21
   cases hlo : looseTo J i n with
   | true =>
    rw [hlo] at hls
    simp [abDs_consU, drU, recheck_cons, recheck_nil, rcK, IS.dst]
    exact hend _ rfl rfl rfl (by rw [hls]; rfl) rfl rfl rfl
   | false =>
    rw [hlo] at hls
    simp [abDs_consU, drU, recheck_cons, recheck_nil, rcK, IS.dst, e3, q0, q0']
    rw [e4]
    refine callK_of (hst _ _ hll) ?_
    simp [abDs_consU, drU, recheck_cons, recheck_nil, rcK, IS.dst]
    refine hend _ rfl rfl rfl ?_ rfl rfl rfl
    rw [hls]
    simp
  ·have hnl : n = (bl i 12).length := by simp at hc; omega
   have hlast : looseTo J i n = looseTo J i 12 := by
    unfold looseTo
    rw [List.take_of_length_le (by omega), List.take_of_length_le (by omega)]
   rw [hlast]
   have htb : tightB J i = (decide (left J i = 0) && !looseTo J i 12) := rfl
   have hks := keysTo_succ (J := J) (i := i)
   have hkl := keysTo_len (J := J) (i := i)
   simp
   refine h20 _ _ _ (h18 _ _ _ ?_)
   clear h18 h20 h21 h23
   refine ab_seq_k fun K30 h30 => ?_
   simp [q0, q0']
   refine callK_of (hst _ _ hi) ?_
   have hK30 : ∀ env c, get env 3 = .p (L0 + 1) 0 0 → get env 4 = .i .u16 i → get env 36 = .b c → c = tightB J i → K30 (some 0) env σ3 := by
    intro env c w3 w4 w36 hcv
    refine h30 _ _ _ ?_
    clear h30
    cases c with
    | false =>
     rw [← hcv, if_neg (by simp)] at hks
     refine ab_cond_of w36 (fun h => by cases h) (fun _ => ?_)
     simp
     refine h16 _ _ _ ?_
     exact hdone σ3 v qo q0 q2 q1 (by rw [hks]; exact hv) _
    | true =>
     rw [← hcv, if_pos rfl] at hks
     refine ab_cond_of w36 (fun _ => ?_) (fun h => by cases h)
     simp [w3, w4, q1, q1']
     refine appG hv (by omega) (by omega) (by omega) rfl ?_
     intro v' σ' hv' hgr
     have hbid : ∀ j, j < L0 + 3 → idOf v ≠ some j := fun j hj e => by have := (hv.id_ge e).1; omega
     have r0 := hgr.get (hbid L0 (by omega)) q0
     have r1 := hgr.get (hbid (L0 + 1) (by omega)) q1
     have r2 := hgr.get (hbid (L0 + 1 + 1) (by omega)) q2
     obtain ⟨hr1, r1'⟩ := List.getElem?_eq_some_iff.1 r1
     simp [w3, w4, r1, r1', hv'.one]
     refine h16 _ _ _ ?_
     refine hdone _ v' ?_ ?_ ?_ (List.getElem?_set_self hr1) ?_ _
     ·intro j hj
      rw [List.getElem?_set_ne (by omega), ← qo j hj]
      exact hgr.keep j (by omega) (hbid j (by omega))
     ·rw [List.getElem?_set_ne (by omega)]; exact r0
     ·rw [List.getElem?_set_ne (by omega)]; exact r2
     ·have h1 := hv'.setlt (i := L0 + 1) (o := O.row 0 [v']) (by omega)
      rw [hks]
      simpa [us] using h1
   clear h30 hdone
   by_cases hl0 : left J i = 0
   ·rw [hl0]
    simp
    refine hK30 _ _ rfl rfl rfl ?_
    rw [htb, hl0]
    simp
   ·simp [hl0]
    refine hK30 _ false rfl rfl rfl ?_
    rw [htb]
    simp [hl0]
 ·rintro σ2 ⟨qo, q0, q2, v, q1, hv⟩
  refine h5 _ _ _ (h3 _ _ _ ?_)
  obtain ⟨hq1, q1'⟩ := List.getElem?_eq_some_iff.1 q1
  refine ab_seq_k fun K30 h30 => ?_
  simp [q1, q1']
  refine h30 _ _ _ ?_
  clear h30 K30
  simp
  refine fin_Q ?_
  simp [rs77]
  exact ⟨hv.mono (by omega), qo⟩
theorem keys77F {J : List Lg} {f : Bool} {σ : List O} (hN : J.length ≤ 12) : FSpec Tryz.prog 77 [heapV J f] σ (.ss (us (keysTo J (2 ^ J.length))) (keysTo J (2 ^ J.length)).length ((keysTo J (2 ^ J.length)).length == 0)) σ := by
 refine FSpec.frame (σ := σ) ?_ (by simp) (by simp)
 exact (keys77 hN).freeze fun v σ' h => ⟨2, frz_G h.1 (by simp)⟩
end Go.Ab
end
section
namespace Go.Ab
open Go Go.Proofs
theorem snoc_ind {α : Type} {P : List α → Prop} (h0 : P []) (h1 : ∀ l a, P l → P (l ++ [a])) (l : List α) : P l := by
 have : ∀ m : List α, P m.reverse := by
  intro m
  induction m with
  | nil => exact h0
  | cons a m ih => rw [List.reverse_cons]; exact h1 _ _ ih
 have := this l.reverse
 rwa [List.reverse_reverse] at this
def insGV {α : Type} (lt : α → α → Bool) (x : α) : List α → List α
 | [] => [x]
 | y :: r => if lt x y = true then y :: insGV lt x r else x :: y :: r
def insG {α : Type} (lt : α → α → Bool) (l : List α) (x : α) : List α := (insGV lt x l.reverse).reverse
def sortG {α : Type} (lt : α → α → Bool) (l : List α) : List α := l.foldl (insG lt) []
theorem insG_mem {α : Type} {lt : α → α → Bool} {x y : α} {l : List α} : y ∈ insG lt l x ↔ y = x ∨ y ∈ l := by
 have : ∀ l : List α, y ∈ insGV lt x l ↔ y = x ∨ y ∈ l := by
  intro l
  induction l with
  | nil => simp [insGV]
  | cons z r ih =>
   rw [insGV]
   split
   ·rw [List.mem_cons, ih, List.mem_cons]
    constructor <;> intro h <;> rcases h with h | h | h <;> simp [h]
   ·simp
 unfold insG
 rw [List.mem_reverse, this, List.mem_reverse]
theorem insG_len {α : Type} {lt : α → α → Bool} {x : α} {l : List α} : (insG lt l x).length = l.length + 1 := by
 have : ∀ l : List α, (insGV lt x l).length = l.length + 1 := by
  intro l
  induction l with
  | nil => rfl
  | cons z r ih => rw [insGV]; split <;> simp [ih]
 unfold insG
 rw [List.length_reverse, this, List.length_reverse]
theorem sortG_snoc {α : Type} {lt : α → α → Bool} {l : List α} {x : α} : sortG lt (l ++ [x]) = insG lt (sortG lt l) x := by simp [sortG]
theorem sortG_len {α : Type} {lt : α → α → Bool} {l : List α} : (sortG lt l).length = l.length := by
 have : ∀ (l acc : List α), (l.foldl (insG lt) acc).length = acc.length + l.length := by
  intro l
  induction l with
  | nil => intro acc; rfl
  | cons x l ih => intro acc; rw [List.foldl_cons, ih, insG_len, List.length_cons]; omega
 rw [sortG, this]; simp
theorem insG_perm {α : Type} {lt : α → α → Bool} {x : α} {l : List α} : (insG lt l x).Perm (x :: l) := by
 have : ∀ l : List α, (insGV lt x l).Perm (x :: l) := by
  intro l
  induction l with
  | nil => exact List.Perm.refl _
  | cons z r ih =>
   rw [insGV]
   split
   ·exact (List.Perm.cons z ih).trans (List.Perm.swap ..)
   ·exact List.Perm.refl _
 unfold insG
 exact (List.reverse_perm _).trans ((this _).trans (List.Perm.cons x (List.reverse_perm l)))
theorem sortG_perm {α : Type} {lt : α → α → Bool} {l : List α} : (sortG lt l).Perm l := by
 refine snoc_ind (P := fun l => (sortG lt l).Perm l) (List.Perm.refl _) ?_ l
 intro l a ih
 rw [sortG_snoc]
 refine insG_perm.trans ?_
 refine (List.Perm.cons a ih).trans ?_
 exact (List.perm_append_singleton a l).symm
theorem insGV_sorted {α : Type} {lt : α → α → Bool} (has : ∀ a b, lt a b = true → lt b a = false) (hntr : ∀ a b c, lt a b = false → lt b c = false → lt a c = false) {x : α} : ∀ {l : List α}, l.Pairwise (fun a b => lt a b = false) → (insGV lt x l).Pairwise (fun a b => lt a b = false)
 | [], _ => by simp [insGV]
 | z :: r, h => by
  rw [insGV]
  rw [List.pairwise_cons] at h
  split
  ·rename_i hlt
   rw [List.pairwise_cons]
   refine ⟨fun y hy => ?_, insGV_sorted has hntr h.2⟩
   have : y ∈ insG lt r.reverse x := by unfold insG; rw [List.reverse_reverse, List.mem_reverse]; exact hy
   rw [insG_mem, List.mem_reverse] at this
   rcases this with rfl | hr
   ·exact has _ _ hlt
   ·exact h.1 y hr
  ·rename_i hlt
   have hz : lt x z = false := by simpa using hlt
   rw [List.pairwise_cons]
   refine ⟨fun y hy => ?_, List.pairwise_cons.2 h⟩
   rcases List.mem_cons.1 hy with rfl | hr
   ·exact hz
   ·exact hntr _ _ _ hz (h.1 y hr)
theorem sortG_sorted {α : Type} {lt : α → α → Bool} (has : ∀ a b, lt a b = true → lt b a = false) (hntr : ∀ a b c, lt a b = false → lt b c = false → lt a c = false) {l : List α} : (sortG lt l).Pairwise (fun a b => lt b a = false) := by
 refine snoc_ind (P := fun l => (sortG lt l).Pairwise (fun a b => lt b a = false)) (by simp [sortG]) ?_ l
 intro l a ih
 rw [sortG_snoc]
 unfold insG
 rw [List.pairwise_reverse]
 refine insGV_sorted has hntr ?_
 rw [List.pairwise_reverse]
 exact ih
def lexN (s t : Nat) : Bool := lexL (bl s 12) (bl t 12)
def lexS (l : List Nat) : List Nat := sortG lexN l
theorem lexS_sorted {l : List Nat} : (lexS l).Pairwise (fun a b => lexN b a = false) := sortG_sorted (lt := lexN) (fun a b h => lexL_asym h) (fun a b c h1 h2 => lexL_ntr h1 h2)
theorem lexS_perm {l : List Nat} : (lexS l).Perm l := sortG_perm
theorem lexS_len {l : List Nat} : (lexS l).length = l.length := sortG_len
def lv (l : List Nat) : List V := l.map listV
theorem listV_pure {s : Nat} : (listV s).pure = true := by simp [listV]
@[simp] theorem lv_pure {l : List Nat} : pureL (lv l) = true := by
 rw [pureL_all]
 intro x hx
 obtain ⟨s, -, rfl⟩ := List.mem_map.1 hx
 exact listV_pure
theorem lv_append {l m : List Nat} : lv (l ++ m) = lv l ++ lv m := by simp [lv]
theorem slcHM {es len : Nat} {σ : List O} {v : V} {C : Ct} {k n : Nat} {cs : List V} (h : Gr k es σ v n cs) (hC : C v σ) : slcC es v none (some (.i .i64 n)) (some (.i .i64 n)) σ C := by
 rcases h.cases with ⟨rfl, rfl, rfl⟩ | ⟨id, ver, hn, hid, rfl, hs, hlt⟩
 ·simpa using hC
 ·obtain ⟨h1, h2⟩ := List.getElem?_eq_some_iff.1 hs
  simp [hs, h2, liveV]
  exact hC
theorem lists76 {L : List Nat} {f : Bool} {σ : List O} (hL : ∀ s ∈ L, s < 2 ^ 12) (hl : L.length ≤ 60000) : FSpec Tryz.prog 76 [.ss (us L) L.length f] σ (.ss (lv (lexS L)) L.length (L.length == 0)) σ := by
 refine FSpec.frame (σ := σ) ?_ (by simp) (by simp)
 refine fn76.spec0 mixed noIt_ok ?_
 rw [ic76]
 refine ab_seq_k fun K1 h1 => ?_
 simp
 refine h1 _ _ _ ?_
 clear h1 K1
 refine ab_seq_k fun K2 h2 => ?_
 simp
 refine h2 _ _ _ ?_
 clear h2 K2
 refine ab_seq_k fun K3 h3 => ?_
 refine ab_seq_k fun K4 h4 => ?_
 simp
 refine h4 _ _ _ ?_
 clear h4 K4
 refine ab_block_k fun K5 h5 => ?_
 refine ab_loop_k (fun m env σ => ∃ (i : Nat) (v : V), i + m = L.length ∧ env = [(3, v), (6, .ss (us L) L.length f), (7, .i .i64 L.length), (8, .i .i64 i)] ∧ Gr 0 1 σ v i (lv (L.take i))) L.length ⟨0, .ss [] 0 true, by omega, by simp, by simpa [lv] using Gr.nil⟩ ?_
 rintro m env σ ⟨i, v, hi, rfl, hv⟩ K6 h6
 rw [ic76_0]
 refine ab_seq_k fun K7 h7 => ?_
 simp
 refine h7 _ _ _ ?_
 clear h7 K7
 refine ab_seq_k fun K8 h8 => ?_
 refine ab_cond_of rfl (fun hc => ?_) (fun hc => ?_)
 ·have hil : i < L.length := by simpa using hc
  have hx : L[i]? = some L[i] := List.getElem?_eq_getElem hil
  have hxm : L[i] ∈ L := List.getElem_mem hil
  have htk : lv (L.take (i + 1)) = lv (L.take i) ++ [listV L[i]] := by rw [List.take_add_one, hx, lv_append]; rfl
  generalize L[i] = s at *
  have hs := hL s hxm
  obtain ⟨hx1, hx'⟩ := List.getElem?_eq_some_iff.1 hx
  simp
  refine h8 _ _ _ ?_
  clear h8 K8
  refine ab_seq_k fun K9 h9 => ?_
  refine ab_block_k fun K10 h10 => ?_
  refine ab_seq_k fun K11 h11 => ?_
  simp [hil, hx, hx']
  refine h11 _ _ _ ?_
  clear h11 K11
  simp [abDs_consU, drU, recheck_cons, recheck_nil, rcK, IS.dst]
  refine lenG hv ?_
  simp [abDs_consU, drU, recheck_cons, recheck_nil, rcK, IS.dst]
  refine lenG hv ?_
  simp [abDs_consU, drU, recheck_cons, recheck_nil, rcK, IS.dst]
  refine slcHM (len := 0) hv ?_
  simp [abDs_consU, drU, recheck_cons, recheck_nil, rcK, IS.dst]
  refine callK_of (list68 (by omega)) ?_
  simp [abDs_consU, drU, recheck_cons, recheck_nil, rcK, IS.dst]
  refine appG hv (by omega) (by omega) (by omega) rfl ?_
  intro v' σ' hv' hgr
  simp [abDs_consU, drU, recheck_cons, recheck_nil, rcK, IS.dst]
  refine h10 _ _ _ (h9 _ _ _ ?_)
  simp [wrap64 (x := (i : Int) + 1) (by omega) (by omega)]
  exact h6 _ _ _ (again (m - 1) (by omega) ⟨i + 1, v', by omega, by simp, by rw [htk]; exact hv'⟩)
 ·have hil : i = L.length := by simp at hc; omega
  subst hil
  rw [List.take_length] at hv
  simp
  refine h5 _ _ _ (h3 _ _ _ ?_)
  clear h3 h5 h6 h8
  have hD : ∀ x ∈ lv L, DL x := fun x hx => by
   obtain ⟨s, hs, rfl⟩ := List.mem_map.1 hx
   exact ⟨s, hL s hs, rfl⟩
  have hp : (lv (lexS L)).Perm (lv L) := lexS_perm.map _
  have hso : (lv (lexS L)).Pairwise (fun x y => lexL (unL y) (unL x) = false) := by
   unfold lv
   rw [List.pairwise_map]
   refine lexS_sorted.imp fun {a b} h => ?_
   simp only [listV, unL_list]
   exact h
  obtain ⟨σ', hsrt, hv', -, -⟩ := srtL hv hl hD hp hso
  refine ab_seq_k fun K20 h20 => ?_
  simp
  refine callK_of (hsrt) ?_
  simp
  refine h20 _ _ _ ?_
  clear h20 K20
  refine ab_seq_k fun K21 h21 => ?_
  simp
  refine h21 _ _ _ ?_
  clear h21 K21
  simp
  refine fin_of 2 ?_
  simp [-frz, rs76]
  rw [frz_G hv' (by simp)]
end Go.Ab
end
section
namespace Go.Ab
open Go Go.Proofs
theorem bl_sublen {s t : Nat} (h : ∀ j, s.testBit j = true → t.testBit j = true) : ∀ {k : Nat}, (bl s k).length ≤ (bl t k).length
 | 0 => Nat.le_refl _
 | k + 1 => by
  have ih := bl_sublen h (k := k)
  simp only [bl]
  cases hs : s.testBit k with
  | true => rw [h k hs]; simp; exact ih
  | false =>
   cases ht : t.testBit k <;> simp <;> omega
theorem bl_lt {s t : Nat} (h : ∀ j, s.testBit j = true → t.testBit j = true) : ∀ {k : Nat}, (∃ j, j < k ∧ s.testBit j = false ∧ t.testBit j = true) → (bl s k).length < (bl t k).length
 | 0, ⟨j, hj, _⟩ => by omega
 | k + 1, ⟨j, hj, h1, h2⟩ => by
  have hle := bl_sublen h (k := k)
  simp only [bl]
  by_cases hjk : j = k
  ·subst hjk
   rw [h1, h2]
   simp; omega
  ·have ih := bl_lt h (k := k) ⟨j, by omega, h1, h2⟩
   cases hs : s.testBit k with
   | true => rw [h k hs]; simp; exact ih
   | false =>
    cases ht : t.testBit k <;> simp <;> omega
theorem least_ex {p : Nat → Prop} {m : Nat → Nat} : ∀ (k : Nat), (∃ s, p s ∧ m s ≤ k) → ∃ s, p s ∧ ∀ t, p t → m s ≤ m t
 | 0, ⟨s, h1, h2⟩ => ⟨s, h1, fun t _ => by omega⟩
 | k + 1, ⟨s, h1, h2⟩ => by
  by_cases h : ∃ t, p t ∧ m t ≤ k
  ·exact least_ex k h
  ·refine ⟨s, h1, fun t ht => ?_⟩
   false_or_by_contra
   exact h ⟨t, ht, by omega⟩
theorem open_nil {J : List Lg} {f : Bool} (hl : ∀ x ∈ J, x.2.1.length ≤ 1000000) : (checkJ J ≠ 0 ∧ openV J f [] = .tup [.np, .i .i64 (checkJ J)]) ∨ (checkJ J = 0 ∧ JOK J ∧ openV J f [] = .tup [heapV J f, .i .i64 0]) := by
 by_cases hc : checkJ J = 0
 ·exact .inr ⟨hc, check_ok hl hc, by unfold openV; rw [if_neg (by simp [hc]), if_neg (by simp [isL, isLF])]⟩
 ·exact .inl ⟨hc, by unfold openV; rw [if_pos hc]⟩
end Go.Ab
end
end
section
namespace Go.Ab
open Go Go.Proofs
def SlP (σ : List O) (v : V) (cs : List V) : Prop := (∃ f, v = .ss cs cs.length f) ∨ ∃ id ver rest, v = .s id ver 0 cs.length 1 ∧ σ[id]? = some (.row ver (cs ++ rest))
theorem Gr.slp {k n : Nat} {σ : List O} {v : V} {cs : List V} (h : Gr k 1 σ v n cs) : SlP σ v cs := by
 have hl := h.1
 rcases h.cases with ⟨rfl, rfl, rfl⟩ | ⟨id, ver, hn, hid, rfl, hs, hlt⟩
 ·exact .inl ⟨true, rfl⟩
 ·have : n = cs.length := by simpa using hl.symm
  exact .inr ⟨id, ver, [], by rw [this], by rw [List.append_nil]; exact hs⟩
theorem SlP.len {σ : List O} {v : V} {cs : List V} {C : Ct} (h : SlP σ v cs) (hC : C (.i .i64 cs.length) σ) : lenC v σ C := by
 rcases h with ⟨f, rfl⟩ | ⟨id, ver, rest, rfl, hs⟩
 ·simpa using hC
 ·simp only [lenC, lenK, liveV, hs]
  exact ⟨rfl, hC⟩
theorem SlP.ixs {σ : List O} {v : V} {cs : List V} {i : Nat} {x : V} {C : Ct} (h : SlP σ v cs) (hx : cs[i]? = some x) (hC : ∀ a, (∀ C', C' x σ → ld1C a σ C') → C a σ) : ixsC 1 v (.i .i64 i) σ C := by
 have hil := (List.getElem?_eq_some_iff.1 hx).1
 rcases h with ⟨f, rfl⟩ | ⟨id, ver, rest, rfl, hs⟩
 ·simp [hil]
  refine hC _ fun C' h' => ?_
  obtain ⟨h1, h2⟩ := List.getElem?_eq_some_iff.1 hx
  simp [hx, h2]
  exact h'
 ·obtain ⟨g1, g2⟩ := List.getElem?_eq_some_iff.1 hs
  simp [hs, g2, hil]
  refine hC _ fun C' h' => ?_
  have : (cs ++ rest)[i]? = some x := by rw [List.getElem?_append_left hil]; exact hx
  obtain ⟨h1, h2⟩ := List.getElem?_eq_some_iff.1 this
  simp [hs, g2, this]
  exact h'
theorem SlP.frz {σ : List O} {v : V} {cs : List V} (h : SlP σ v cs) (hp : pureL cs = true) : ∃ f, frz 2 0 σ v = .ss cs cs.length f := by
 rcases h with ⟨f, rfl⟩ | ⟨id, ver, rest, rfl, hs⟩
 ·exact ⟨f, frz_pure (by simpa using hp)⟩
 ·refine ⟨false, ?_⟩
  rw [Go.Ab.frz]
  simp only [V.pure, Bool.false_eq_true, if_false, Nat.not_lt_zero, hs]
  rw [if_pos ⟨trivial, by simp⟩]
  rw [List.drop_zero, Nat.mul_one, List.take_left, map_frz hp]
def SlL (σ : List O) (v : V) (cs : List V) : Prop := ∃ id ver rest, v = .s id ver 0 cs.length 1 ∧ σ[id]? = some (.row ver (cs ++ rest))
theorem SlL.slp {σ : List O} {v : V} {cs : List V} (h : SlL σ v cs) : SlP σ v cs := .inr h
theorem SlL.frz {σ : List O} {v : V} {cs : List V} (h : SlL σ v cs) (hp : pureL cs = true) : Go.Ab.frz 2 0 σ v = .ss cs cs.length false := by
 obtain ⟨id, ver, rest, rfl, hs⟩ := h
 rw [Go.Ab.frz]
 simp only [V.pure, Bool.false_eq_true, if_false, Nat.not_lt_zero, hs]
 rw [if_pos ⟨trivial, by simp⟩]
 rw [List.drop_zero, Nat.mul_one, List.take_left, map_frz hp]
theorem us_get {L : List Nat} {i s : Nat} (h : L[i]? = some s) : (us L)[i]? = some (u16V s) := by unfold us u16V; rw [List.getElem?_map, h]; rfl
theorem us_append {L M : List Nat} : us (L ++ M) = us L ++ us M := by simp [us]
theorem index109 {L : List Nat} {v : V} {fp : FuncId} {first cap : List V} {p : Nat → Bool} {σ : List O} (hv : SlP σ v (us L)) (hl : L.length ≤ 60000) (hp : ∀ x ∈ L, FSpec Tryz.prog fp (first ++ [u16V x] ++ cap) σ (.b (p x)) σ) :
  FSpec Tryz.prog 109 [v, .f (.func fp) first cap] σ (.i .i64 (match L.findIdx? p with | some i => (i : Int) | none => -1)) σ := by
 refine fn109.spec mixed noIt_ok ?_
 rw [ic109]
 refine ab_seq_k fun K1 h1 => ?_
 simp
 refine h1 _ _ _ ?_
 clear h1 K1
 refine ab_seq_k fun K2 h2 => ?_
 refine ab_seq_k fun K3 h3 => ?_
 simp
 refine hv.len ?_
 simp
 refine h3 _ _ _ ?_
 clear h3 K3
 refine ab_block_k fun K4 h4 => ?_
 refine ab_loop_k (fun m env σ' => ∃ i : Nat, i + m = L.length ∧ (∀ (j x : Nat), j < i → L[j]? = some x → p x = false) ∧ env = [(0, v), (1, .f (.func fp) first cap), (7, .i .i64 L.length), (8, .i .i64 i)] ∧ σ' = σ) L.length ⟨0, by omega, by simp, by simp, rfl⟩ ?_
 rintro m env σ' ⟨i, hi, hprev, rfl, rfl⟩ K5 h5
 rw [ic109_0]
 refine ab_seq_k fun K6 h6 => ?_
 simp
 refine h6 _ _ _ ?_
 clear h6 K6
 refine ab_seq_k fun K7 h7 => ?_
 refine ab_cond_of rfl (fun hc => ?_) (fun hc => ?_)
 ·have hlt : i < L.length := by simpa using hc
  have hget : L[i]? = some L[i] := List.getElem?_eq_getElem hlt
  have hmem := List.getElem_mem hlt
  have hu := us_get hget
  generalize hx : L[i] = x at *
  simp
  refine h7 _ _ _ ?_
  clear h7 K7
  refine ab_seq_k fun K8 h8 => ?_
  refine ab_block_k fun K9 h9 => ?_
  refine ab_seq_k fun K10 h10 => ?_
  simp
  refine h10 _ _ _ ?_
  clear h10 K10
  refine ab_seq_k fun K11 h11 => ?_
  simp
  refine hv.ixs hu fun a ha => ?_
  simp
  refine ha _ ?_
  simp
  refine callK_of (by simpa using hp x hmem) ?_
  simp
  refine h11 _ _ _ ?_
  refine ab_cond_of rfl (fun hpx => ?_) (fun hpx => ?_)
  ·refine ab_seq_k fun K12 h12 => ?_
   simp
   refine h12 _ _ _ ?_
   clear h12 K12
   have : L.findIdx? p = some i := by
    rw [List.findIdx?_eq_some_iff_getElem]
    exact ⟨hlt, by rw [hx]; exact hpx, fun j hj => by have := hprev j _ hj (List.getElem?_eq_getElem (by omega)); simpa using this⟩
   simp [this]
   exact fin_all (by simp [rs109])
  ·simp
   refine h9 _ _ _ (h8 _ _ _ ?_)
   simp [wrap64 (x := (i : Int) + 1) (by omega) (by omega)]
   refine h5 _ _ _ (again (m - 1) (by omega) ⟨i + 1, by omega, fun j y hj hy => ?_, by simp, rfl⟩)
   by_cases hji : j = i
   ·subst hji; rw [hget] at hy; cases hy; exact hpx
   ·exact hprev j y (by omega) hy
 ·have hlt : ¬ i < L.length := by simpa using hc
  simp
  refine h4 _ _ _ (h2 _ _ _ ?_)
  refine ab_seq_k fun K8 h8 => ?_
  simp
  refine h8 _ _ _ ?_
  clear h8 K8
  have : L.findIdx? p = none := by
   rw [List.findIdx?_eq_none_iff]
   intro x hx
   obtain ⟨j, hj⟩ := List.mem_iff_getElem?.1 hx
   have := (List.getElem?_eq_some_iff.1 hj).1
   exact hprev j x (by omega) hj
  simp [this]
  exact fin_all (by simp [rs109])
theorem contains110 {L : List Nat} {v : V} {fp : FuncId} {first cap : List V} {p : Nat → Bool} {σ : List O} (hv : SlP σ v (us L)) (hl : L.length ≤ 60000) (hp : ∀ x ∈ L, FSpec Tryz.prog fp (first ++ [u16V x] ++ cap) σ (.b (p x)) σ) :
  FSpec Tryz.prog 110 [v, .f (.func fp) first cap] σ (.b (L.any p)) σ := by
 refine fn110.spec mixed noIt_ok ?_
 rw [ic110]
 refine ab_seq_k fun K1 h1 => ?_
 simp
 refine h1 _ _ _ ?_
 clear h1 K1
 refine ab_seq_k fun K2 h2 => ?_
 simp
 refine callK_of (index109 hv hl hp) ?_
 simp
 refine h2 _ _ _ ?_
 clear h2 K2
 simp
 refine fin_all ?_
 simp [rs110]
 cases h : L.findIdx? p with
 | none =>
  rw [List.findIdx?_eq_none_iff] at h
  have : L.any p = false := by rw [List.any_eq_false]; intro x hx; simp [h x hx]
  simpa using this
 | some i =>
  rw [List.findIdx?_eq_some_iff_getElem] at h
  obtain ⟨h1, h2, -⟩ := h
  have : L.any p = true := by rw [List.any_eq_true]; exact ⟨_, List.getElem_mem h1, h2⟩
  simpa using this
end Go.Ab
end
section
namespace Go.Ab
open Go Go.Proofs
theorem sub_le {t s : Nat} (h : less t s = 0) : t ≤ s := by
 have : t &&& s = t := Nat.eq_of_testBit_eq fun j => by
  rw [Nat.testBit_and]
  cases hj : t.testBit j with
  | false => rfl
  | true => rw [less_zero.1 h j hj]; rfl
 rw [← this]
 exact Nat.and_le_right
theorem sub_trans {r t s : Nat} (h1 : less r t = 0) (h2 : less t s = 0) : less r s = 0 := less_zero.2 fun j hj => less_zero.1 h2 j (less_zero.1 h1 j hj)
def minLock (J : List Lg) (s : Nat) : Bool := lockB J s && !(List.range s).any fun t => lockB J t && decide (less t s = 0)
def locksTo (J : List Lg) (i : Nat) : List Nat := (List.range i).filter (minLock J)
theorem locksTo_succ {J : List Lg} {i : Nat} : locksTo J (i + 1) = if minLock J i then locksTo J i ++ [i] else locksTo J i := by
 unfold locksTo
 rw [List.range_succ, List.filter_append]
 cases h : minLock J i <;> simp [h]
theorem locksTo_len {J : List Lg} {i : Nat} : (locksTo J i).length ≤ i := by
 have := List.length_filter_le (minLock J) (List.range i)
 rw [List.length_range] at this
 exact this
theorem minLock_iff {J : List Lg} {s : Nat} : minLock J s = true ↔ lockB J s = true ∧ ∀ t, lockB J t = true → less t s = 0 → t = s := by
 unfold minLock
 rw [Bool.and_eq_true, Bool.not_eq_true', List.any_eq_false]
 refine and_congr_right fun _ => ?_
 constructor
 ·intro h t h1 h2
  have hle := sub_le h2
  by_cases he : t = s
  ·exact he
  ·have := h t (List.mem_range.2 (by omega))
   rw [h1] at this
   simp [h2] at this
 ·intro h t ht
  rw [List.mem_range] at ht
  intro h3
  rw [Bool.and_eq_true, decide_eq_true_eq] at h3
  have := h t h3.1 h3.2
  omega
theorem min_under {J : List Lg} {t : Nat} (h : lockB J t = true) : ∃ u, minLock J u = true ∧ less u t = 0 := by
 obtain ⟨u, ⟨h1, h2⟩, h3⟩ := least_ex (p := fun u => lockB J u = true ∧ less u t = 0) (m := id) t ⟨t, ⟨h, less_zero.2 fun _ hj => hj⟩, Nat.le_refl _⟩
 refine ⟨u, minLock_iff.2 ⟨h1, fun r hr hru => ?_⟩, h2⟩
 have h4 := sub_le hru
 have h5 := h3 r ⟨hr, sub_trans hru h2⟩
 simp at h5
 omega
theorem any_min {J : List Lg} {i : Nat} (hl : lockB J i = true) : (locksTo J i).any (fun x => decide (less x i = 0)) = !minLock J i := by
 rw [Bool.eq_iff_iff, List.any_eq_true, Bool.not_eq_true']
 constructor
 ·rintro ⟨x, hx, h⟩
  rw [decide_eq_true_eq] at h
  obtain ⟨hx1, hx2⟩ := List.mem_filter.1 hx
  rw [List.mem_range] at hx1
  cases hm : minLock J i with
  | false => rfl
  | true =>
   have := (minLock_iff.1 hm).2 x (minLock_iff.1 hx2).1 h
   omega
 ·intro hm
  unfold minLock at hm
  rw [hl, Bool.true_and, Bool.not_eq_false', List.any_eq_true] at hm
  obtain ⟨t, ht, h⟩ := hm
  rw [List.mem_range] at ht
  rw [Bool.and_eq_true, decide_eq_true_eq] at h
  obtain ⟨u, h1, h2⟩ := min_under h.1
  have := sub_le h2
  exact ⟨u, List.mem_filter.2 ⟨List.mem_range.2 (by omega), h1⟩, decide_eq_true (sub_trans h2 h.2)⟩
theorem locks_anti {J : List Lg} {i x y : Nat} (hx : x ∈ locksTo J i) (hy : y ∈ locksTo J i) (h : less y x = 0) : y = x :=
 (minLock_iff.1 (List.mem_filter.1 hx).2).2 y (minLock_iff.1 (List.mem_filter.1 hy).2).1 h
theorem inside112 {a b : Nat} {σ : List O} (ha : a < 65536) (hb : b < 65536) : FSpec Tryz.prog 112 [u16V a, u16V b] σ (.b (decide (less a b = 0))) σ := by
 refine FSpec.frame (σ := σ) ?_ rfl rfl
 refine fn112.spec0 mixed noIt_ok ?_
 rw [ic112]
 have e4 := andNot_nat (a := a) (b := b) ha hb
 refine ab_seq_k fun K1 h1 => ?_
 simp
 refine h1 _ _ _ ?_
 clear h1 K1
 refine ab_seq_k fun K2 h2 => ?_
 simp [u16V]
 rw [e4]
 refine h2 _ _ _ ?_
 simp
 refine fin_of 1 ?_
 simp [rs112]
theorem part111 {c a b : Nat} {τ : List O} (ha : a < 65536) (hb : b < 65536) (h1 : τ[c]? = some (.row 0 [u16V b])) : FSpec Tryz.prog 111 [u16V a, .p c 0 0] τ (.b (decide (less a b = 0))) τ := by
 refine fn111.spec mixed noIt_ok ?_
 rw [ic111]
 obtain ⟨g1, g1'⟩ := List.getElem?_eq_some_iff.1 h1
 refine ab_seq_k fun K1 h1 => ?_
 simp
 refine h1 _ _ _ ?_
 clear h1 K1
 refine ab_seq_k fun K2 h2' => ?_
 simp [h1, g1']
 refine callK_of (inside112 ha hb) ?_
 simp
 refine h2' _ _ _ ?_
 simp
 refine fin_all ?_
 simp [rs111]
theorem tight113 {L : List Nat} {v : V} {σ : List O} (hv : SlP σ v (us L)) (hl : L.length ≤ 60000) (hlt : ∀ s ∈ L, s < 65536) (hanti : ∀ (i k x y : Nat), L[i]? = some x → L[k]? = some y → less y x = 0 → k = i) :
  FSpecQ Tryz.prog 113 [v, .f (.func 112) [] []] σ (fun v' σ' => Gr σ.length 1 σ' v' L.length (us L)) := by
 refine fn113.specQ mixed noIt_ok ?_
 rw [ic113]
 refine ab_seq_k fun K1 h1 => ?_
 simp
 refine h1 _ _ _ ?_
 clear h1 K1
 refine ab_seq_k fun K2 h2 => ?_
 simp
 refine h2 _ _ _ ?_
 clear h2 K2
 refine ab_seq_k fun K3 h3 => ?_
 simp
 refine h3 _ _ _ ?_
 clear h3 K3
 refine ab_seq_k fun K4 h4 => ?_
 refine ab_seq_k fun K5 h5 => ?_
 simp
 refine hv.len ?_
 simp
 refine h5 _ _ _ ?_
 clear h5 K5
 refine ab_block_k fun K6 h6 => ?_
 refine ab_loop_k (fun m env σ' => ∃ (i : Nat) (w : V), i + m = L.length ∧ env = [(0, v), (1, .f (.func 112) [] []), (5, w), (10, v), (11, .i .i64 L.length), (12, .i .i64 i)] ∧ SlP σ' v (us L) ∧ Gr σ.length 1 σ' w i (us (L.take i)) ∧ σ.length ≤ σ'.length) L.length ⟨0, .ss [] 0 true, by omega, by simp, hv, by simpa [us] using Gr.nil, Nat.le_refl _⟩ ?_
 generalize hn0 : σ.length = n0 at *
 have hvid : ∀ id, idOf v = some id → id < n0 := by
  intro id hid
  rcases hv with ⟨f, rfl⟩ | ⟨id', ver, rest, rfl, hs⟩
  ·cases hid
  ·cases hid
   rw [← hn0]
   exact (List.getElem?_eq_some_iff.1 hs).1
 clear hv
 rintro m env σ' ⟨i, w, hi, rfl, hv, hw, hlen⟩ K7 h7
 rw [ic113_1]
 refine ab_seq_k fun K8 h8 => ?_
 simp
 refine h8 _ _ _ ?_
 clear h8 K8
 refine ab_seq_k fun K9 h9 => ?_
 refine ab_cond_of rfl (fun hc => ?_) (fun hc => ?_)
 ·have hil : i < L.length := by simpa using hc
  have hx : L[i]? = some L[i] := List.getElem?_eq_getElem hil
  have hxl := hlt _ (List.getElem_mem hil)
  have htk : us (L.take (i + 1)) = us (L.take i) ++ [u16V L[i]] := by rw [List.take_add_one, hx, us_append]; rfl
  generalize L[i] = x at *
  have hu := us_get hx
  simp
  refine h9 _ _ _ ?_
  clear h9 K9
  refine ab_seq_k fun K10 h10 => ?_
  refine ab_block_k fun K11 h11 => ?_
  refine ab_seq_k fun K12 h12 => ?_
  simp
  refine hv.ixs hu fun a ha => ?_
  simp
  refine ha _ ?_
  simp
  refine h12 _ _ _ ?_
  clear h12 K12
  refine ab_seq_k fun K13 h13 => ?_
  refine ab_seq_k fun K14 h14 => ?_
  simp
  refine hv.len ?_
  simp
  refine h14 _ _ _ ?_
  clear h14 K14
  refine ab_block_k fun K15 h15 => ?_
  refine ab_loop_k (fun m2 env τ => ∃ k : Nat, k + m2 = L.length ∧ env = [(0, v), (1, .f (.func 112) [] []), (5, w), (6, .i .i64 i), (7, u16V x), (10, v), (11, .i .i64 L.length), (12, .i .i64 i), (17, v), (18, .i .i64 L.length), (19, .i .i64 k)] ∧ τ = σ') L.length ⟨0, by omega, by simp, rfl⟩ ?_
  rintro m2 env τ ⟨k, hk, rfl, rfl⟩ K16 h16
  rw [ic113_0]
  refine ab_seq_k fun K17 h17 => ?_
  simp
  refine h17 _ _ _ ?_
  clear h17 K17
  refine ab_seq_k fun K18 h18 => ?_
  refine ab_cond_of rfl (fun hc2 => ?_) (fun hc2 => ?_)
  ·have hkl : k < L.length := by simpa using hc2
   have hy : L[k]? = some L[k] := List.getElem?_eq_getElem hkl
   have hyl := hlt _ (List.getElem_mem hkl)
   have han := hanti i k x L[k] hx hy
   generalize L[k] = y at *
   have huy := us_get hy
   simp
   refine h18 _ _ _ ?_
   clear h18 K18
   refine ab_seq_k fun K19 h19 => ?_
   refine ab_block_k fun K20 h20 => ?_
   refine ab_seq_k fun K21 h21 => ?_
   simp
   refine hv.ixs huy fun a ha => ?_
   simp
   refine ha _ ?_
   simp
   refine h21 _ _ _ ?_
   clear h21 K21
   refine ab_seq_k fun K22 h22 => ?_
   have hK22 : ∀ env, get env 0 = v → get env 1 = .f (.func 112) [] [] → get env 5 = w → get env 6 = .i .i64 i → get env 7 = u16V x → get env 10 = v → get env 11 = .i .i64 L.length → get env 12 = .i .i64 i → get env 17 = v → get env 18 = .i .i64 L.length → get env 19 = .i .i64 k → get env 32 = .b false → K22 (some 0) env τ := by
    intro env w0 w1 w5 w6 w7 w10 w11 w12 w17 w18 w19 w32
    refine h22 _ _ _ ?_
    refine ab_cond_of w32 (fun h => by cases h) (fun _ => ?_)
    simp
    refine h20 _ _ _ (h19 _ _ _ ?_)
    simp [w0, w1, w5, w6, w7, w10, w11, w12, w17, w18, w19, wrap64 (x := (k : Int) + 1) (by omega) (by omega)]
    exact h16 _ _ _ (again (m2 - 1) (by omega) ⟨k + 1, by omega, by simp, rfl⟩)
   clear h22
   by_cases hki : k = i
   ·subst hki
    simp
    exact hK22 _ rfl rfl rfl rfl rfl rfl rfl rfl rfl rfl rfl rfl
   ·have hne : ¬ (k : Int) = i := by omega
    have hl0 : ¬ less y x = 0 := fun h => hki (han h)
    simp [hne, hki]
    refine callK_of (inside112 hyl hxl) ?_
    simp [hl0]
    exact hK22 _ rfl rfl rfl rfl rfl rfl rfl rfl rfl rfl rfl rfl
  ·simp
   refine h15 _ _ _ (h13 _ _ _ ?_)
   clear h13 h15 h16 h18
   simp [u16V]
   refine appG hw (by omega) (by omega) (by omega) rfl ?_
   intro w' σ3 hw' hgr
   have hv3 : SlP σ3 v (us L) := by
    rcases hv with ⟨f, e⟩ | ⟨id, ver, rest, e, hs⟩
    ·exact .inl ⟨f, e⟩
    ·refine .inr ⟨id, ver, rest, e, ?_⟩
     have hid := hvid id (by rw [e]; rfl)
     rw [hgr.keep id (List.getElem?_eq_some_iff.1 hs).1 (fun h => by have := (hw.id_ge h).1; omega)]
     exact hs
   have hlen3 : n0 ≤ σ3.length := by
    rcases hw'.cases with ⟨h1, -, -⟩ | ⟨id, ver, -, hid, -, -, hlt'⟩
    ·omega
    ·omega
   simp
   refine h11 _ _ _ (h10 _ _ _ ?_)
   simp [wrap64 (x := (i : Int) + 1) (by omega) (by omega)]
   exact h7 _ _ _ (again (m - 1) (by omega) ⟨i + 1, w', by omega, by simp, hv3, by rw [htk]; exact hw', hlen3⟩)
 ·have hil : i = L.length := by simp at hc; omega
  subst hil
  rw [List.take_length] at hw
  simp
  refine h6 _ _ _ (h4 _ _ _ ?_)
  refine ab_seq_k fun K30 h30 => ?_
  simp
  refine h30 _ _ _ ?_
  clear h30 K30
  simp
  refine fin_Q ?_
  simp [rs113]
  exact hw
end Go.Ab
end
section
namespace Go.Ab
open Go Go.Proofs
theorem byB_small {J : List Lg} (hc : ∀ p ∈ J, isL J.length p.2.1 = true) {n j : Nat} (hn : n < J.length) (h : ((byB J).getD n 0).testBit j = true) : j < J.length := by
 have hp : J[n]? = some J[n] := List.getElem?_eq_getElem hn
 have hL := hc _ (List.getElem_mem hn)
 generalize J[n] = p at *
 have hB : (byB J).getD n 0 = setB p.2.1 := by
  unfold byB
  rw [List.getD_eq_getElem?_getD, List.getElem?_map, hp]; rfl
 rw [hB] at h
 exact bit_small (setB_N hL) h
theorem frB_congr {J : List Lg} {B : List Nat} {n g g' : Nat} (h : ∀ j, (B.getD n 0).testBit j = true → g.testBit j = g'.testBit j) : frB J B n g = frB J B n g' := by
 unfold frB
 by_cases hk : kd J n = 0
 ·rw [if_pos hk, if_pos hk, Bool.eq_iff_iff, decide_eq_true_eq, decide_eq_true_eq, less_zero, less_zero]
  exact ⟨fun q j hj => by rw [← h j hj]; exact q j hj, fun q j hj => by rw [h j hj]; exact q j hj⟩
 ·rw [if_neg hk, if_neg hk, Bool.eq_iff_iff, decide_eq_true_eq, decide_eq_true_eq, and_ne, and_ne]
  exact ⟨fun ⟨j, h1, h2⟩ => ⟨j, h1, by rw [← h j h1]; exact h2⟩, fun ⟨j, h1, h2⟩ => ⟨j, h1, by rw [h j h1]; exact h2⟩⟩
theorem lockB_iff {J : List Lg} {t : Nat} (ht : t < 2 ^ 12) : lockB J t = true ↔ t ≠ 0 ∧ ∀ n, t.testBit n = true → frB J (byB J) n (cmpl t) = false := by
 unfold lockB freeAny
 rw [Bool.and_eq_true, decide_eq_true_eq, Bool.not_eq_true', List.any_eq_false]
 refine and_congr_right fun _ => ?_
 constructor
 ·intro h n hn
  have := h n (bl_mem.2 ⟨n, bit_small ht hn, rfl, hn⟩)
  simpa using this
 ·intro h x hx
  obtain ⟨j, hj, rfl, hb⟩ := bl_mem.1 hx
  simpa using h j hb
theorem left_gk {J : List Lg} {s j : Nat} (hj : j < J.length) : (left J s).testBit j = !(gk J (byB J) s J.length).testBit j := by
 have hb := wr_b (J := J) (B := byB J) (keys := s) (r := J.length) (n := j)
 have hw := wave_in (J := J) (B := byB J) (s := s) hj J.length
 rw [left_bit hj]
 cases hg : (gk J (byB J) s J.length).testBit j with
 | true => have := hw.2 hg; simp; omega
 | false =>
  have : ¬ (0 ≤ wr J (byB J) s J.length j ∧ wr J (byB J) s J.length j ≤ J.length) := fun h => by rw [hw.1 h] at hg; cases hg
  simp
  omega
theorem left_N' {J : List Lg} {s j : Nat} (h : (left J s).testBit j = true) : j < J.length := bit_small left_N h
theorem left_lock {J : List Lg} {s : Nat} (hN : J.length ≤ 12) (hc : ∀ p ∈ J, isL J.length p.2.1 = true) (h : left J s ≠ 0) : lockB J (left J s) = true := by
 have hpw := pow12 hN
 have hl := left_N (J := J) (s := s)
 rw [lockB_iff (by omega)]
 refine ⟨h, fun n hn => ?_⟩
 have hnN := left_N' hn
 have hg := hn
 rw [left_gk hnN, Bool.not_eq_true'] at hg
 have hst := gk_stable (J := J) (B := byB J) (s := s)
 have h1 := gk_step (J := J) (B := byB J) (s := s) (r := J.length) (j := n)
 rw [hst, hg] at h1
 simp [hnN] at h1
 rw [frB_congr (g' := gk J (byB J) s J.length) (fun j hj => ?_)]
 ·exact h1
 ·have hjN := byB_small hc hnN hj
  have h2 := left_gk (J := J) (s := s) hjN
  rw [cmpl_bit (by omega), h2, Bool.not_not, decide_eq_true (by omega : j < 16), Bool.true_and]
theorem left_key {J : List Lg} {s : Nat} : left J s &&& s = 0 := by
 apply Nat.eq_of_testBit_eq
 intro j
 rw [Nat.testBit_and, Nat.zero_testBit]
 cases hl : (left J s).testBit j with
 | false => rfl
 | true =>
  have hj := left_N' hl
  rw [left_gk hj, Bool.not_eq_true'] at hl
  cases hs : s.testBit j with
  | false => rfl
  | true =>
   have := gk_up (J := J) (B := byB J) (s := s) (r := 0) (j := j) hs (d := J.length)
   rw [Nat.zero_add, hl] at this
   cases this
theorem lock_meets {J : List Lg} {s t : Nat} (hN : J.length ≤ 12) (hs : s < 65536) (ht : t < 2 ^ J.length) (hl : lockB J t = true) (h : left J s = 0) : s &&& t ≠ 0 := by
 have hpw := pow12 hN
 intro h0
 obtain ⟨hz, hf⟩ := (lockB_iff (by omega)).1 hl
 have key : ∀ r, ∀ j, t.testBit j = true → (gk J (byB J) s r).testBit j = false := by
  intro r
  induction r with
  | zero =>
   intro j hj
   have := congrArg (fun z => z.testBit j) h0
   simp only [Nat.testBit_and, hj, Bool.and_true, Nat.zero_testBit] at this
   exact this
  | succ r ih =>
   intro j hj
   rw [gk_step, ih j hj, Bool.false_or]
   cases hq : frB J (byB J) j (gk J (byB J) s r) with
   | false => rw [Bool.and_false]
   | true =>
    have := frB_mono (g' := cmpl t) (fun i hi => ?_) hq
    ·rw [hf j hj] at this
     cases this
    ·rw [cmpl_bit (by omega)]
     have hlt := gk_lt (J := J) (B := byB J) (keys := s) hs (by omega) (r := r)
     have hi16 := bit_small (N := 16) hlt hi
     cases hti : t.testBit i with
     | false => simp [hi16]
     | true => rw [ih i hti] at hi; cases hi
 obtain ⟨j, hj⟩ := Nat.exists_testBit_of_ne_zero hz
 have hjN := bit_small ht hj
 have h1 := left_gk (J := J) (s := s) hjN
 rw [key _ j hj, h, Nat.zero_testBit] at h1
 cases h1
end Go.Ab
end
section
namespace Go.Ab
open Go Go.Proofs
theorem left_full {J : List Lg} : left J (2 ^ J.length - 1) = 0 := by
 apply Nat.eq_of_testBit_eq
 intro j
 rw [Nat.zero_testBit]
 by_cases hj : j < J.length
 ·rw [left_bit hj]
  refine decide_eq_false ?_
  rw [wave_key hj (by rw [Nat.testBit_two_pow_sub_one]; simp [hj])]
  omega
 ·exact Nat.testBit_lt_two_pow (Nat.lt_of_lt_of_le left_N (Nat.pow_le_pow_right (by omega) (by omega)))
theorem pc_less {s n : Nat} (hs : s < 2 ^ 16) (h : s.testBit n = true) : pc (less s (2 ^ n)) < pc s := by
 have hn : n < 16 := by
  false_or_by_contra
  have := Nat.testBit_lt_two_pow (Nat.lt_of_lt_of_le hs (Nat.pow_le_pow_right (n := 2) (by omega) (by omega : 16 ≤ n)))
  rw [this] at h; cases h
 refine bl_lt (fun j hj => ?_) ⟨n, hn, ?_, h⟩
 ·rw [less_bit] at hj
  simp at hj
  exact hj.1
 ·rw [less_bit, Nat.testBit_two_pow_self]
  simp
theorem tight_iff {J : List Lg} {s : Nat} (hs : s < 2 ^ 12) : tightB J s = true ↔ left J s = 0 ∧ ∀ n, s.testBit n = true → left J (less s (2 ^ n)) ≠ 0 := by
 unfold tightB looseTo
 rw [List.take_of_length_le bl_len, Bool.and_eq_true, decide_eq_true_eq, Bool.not_eq_true', List.any_eq_false]
 refine and_congr_right fun _ => ?_
 constructor
 ·intro h n hn
  have hn12 : n < 12 := bit_small hs hn
  have := h n (bl_mem.2 ⟨n, hn12, rfl, hn⟩)
  simpa using this
 ·intro h x hx
  obtain ⟨j, hj, rfl, hb⟩ := bl_mem.1 hx
  simpa using h j hb
theorem keys_ne {J : List Lg} (hN : J.length ≤ 12) : keysTo J (2 ^ J.length) ≠ [] := by
 have hpw := pow12 hN
 obtain ⟨s, ⟨h1, h2⟩, h3⟩ := least_ex (p := fun s => s < 2 ^ J.length ∧ left J s = 0) (m := pc) _ ⟨2 ^ J.length - 1, ⟨by omega, left_full⟩, Nat.le_refl _⟩
 have : s ∈ keysTo J (2 ^ J.length) := by
  unfold keysTo
  rw [List.mem_filter, List.mem_range]
  refine ⟨h1, (tight_iff (by omega)).2 ⟨h2, fun n hn hl => ?_⟩⟩
  have := h3 (less s (2 ^ n)) ⟨less_lt h1, hl⟩
  have := pc_less (by omega) hn
  omega
 intro e
 rw [e] at this
 cases this
end Go.Ab
end
section
namespace Go.Ab
open Go Go.Proofs
def keysV (J : List Lg) : V := if checkJ J ≠ 0 then .tup [.ss [] 0 true, .i .i64 (checkJ J)] else .tup [.ss (lv (lexS (keysTo J (2 ^ J.length)))) (keysTo J (2 ^ J.length)).length ((keysTo J (2 ^ J.length)).length == 0), .i .i64 0]
theorem keysV_pure {J} : (keysV J).pure = true := by
 unfold keysV
 split
 ·rfl
 ·simp
theorem keys31 {J : List Lg} {f : Bool} {σ : List O} (hJ : J.length ≤ 1000000) (hl : ∀ x ∈ J, x.2.1.length ≤ 1000000) : FSpec Tryz.prog 31 [jamV J f] σ (keysV J) σ := by
 refine FSpec.frame (σ := σ) ?_ (by simp) keysV_pure
 have h62 := fun σ => open62 (f := f) (l := []) (fl := true) (σ := σ) hJ hl (by simp)
 refine fn31.spec0 mixed noIt_ok ?_
 rw [ic31]
 refine ab_seq_k fun K1 h1 => ?_
 simp
 refine h1 _ _ _ ?_
 clear h1 K1
 refine ab_seq_k fun K2 h2 => ?_
 simp
 refine callK_of (h62 _) ?_
 rcases open_nil (f := f) hl with ⟨hc, ho⟩ | ⟨hc, hJO, ho⟩
 ·have hv : keysV J = .tup [.ss [] 0 true, .i .i64 (checkJ J)] := by unfold keysV; rw [if_pos hc]
  rw [ho]
  simp
  refine h2 _ _ _ ?_
  clear h2 K2
  refine ab_seq_k fun K3 h3 => ?_
  refine ab_seq_k fun K5 h5 => ?_
  simp
  refine h5 _ _ _ ?_
  clear h5 K5
  refine ab_cond_of rfl (fun _ => ?_) (fun h => by simp at h; omega)
  refine ab_seq_k fun K6 h6 => ?_
  simp
  refine h6 _ _ _ ?_
  clear h6 K6
  simp
  refine fin_of 3 ?_
  simp [rs31, hv]
 ·have hN := hJO.2.1
  have hpw := pow12 hN
  have hk := fun σ => keys77F (J := J) (f := f) (σ := σ) hN
  have hkl := keysTo_len (J := J) (i := 2 ^ J.length)
  have hmem : ∀ s ∈ keysTo J (2 ^ J.length), s < 2 ^ 12 := fun s hs => by
   have := (List.mem_filter.1 hs).1
   rw [List.mem_range] at this
   omega
  have hv : keysV J = .tup [.ss (lv (lexS (keysTo J (2 ^ J.length)))) (keysTo J (2 ^ J.length)).length ((keysTo J (2 ^ J.length)).length == 0), .i .i64 0] := by unfold keysV; rw [if_neg (by simp [hc])]
  have hls := fun f σ => lists76 (L := keysTo J (2 ^ J.length)) (f := f) (σ := σ) hmem (by omega)
  generalize keysTo J (2 ^ J.length) = L at *
  rw [ho]
  simp
  refine h2 _ _ _ ?_
  clear h2 K2
  refine ab_seq_k fun K3 h3 => ?_
  refine ab_seq_k fun K5 h5 => ?_
  simp
  refine h5 _ _ _ ?_
  clear h5 K5
  refine ab_cond_of rfl (fun h => by simp at h) (fun _ => ?_)
  simp
  refine h3 _ _ _ ?_
  clear h3 K3
  refine ab_seq_k fun K7 h7 => ?_
  simp
  refine callK_of (hk _) ?_
  simp
  refine callK_of (hls _ _) ?_
  simp
  refine h7 _ _ _ ?_
  simp
  refine fin_of 3 ?_
  simp [rs31, hv]
end Go.Ab
end
section
namespace Go.Ab
open Go Go.Proofs
theorem keys_mem {J : List Lg} {s : Nat} (hN : J.length ≤ 12) : s ∈ keysTo J (2 ^ J.length) ↔ s < 2 ^ J.length ∧ left J s = 0 ∧ ∀ n, s.testBit n = true → left J (less s (2 ^ n)) ≠ 0 := by
 have hpw := pow12 hN
 unfold keysTo
 rw [List.mem_filter, List.mem_range]
 exact and_congr_right fun h => tight_iff (by omega)
theorem keys_under {J : List Lg} {s : Nat} (hN : J.length ≤ 12) (hs : s < 2 ^ J.length) (h : left J s = 0) : ∃ u, u ∈ keysTo J (2 ^ J.length) ∧ less u s = 0 := by
 have hpw := pow12 hN
 obtain ⟨u, ⟨h1, h2, h3⟩, h4⟩ := least_ex (p := fun u => u < 2 ^ J.length ∧ left J u = 0 ∧ less u s = 0) (m := pc) _ ⟨s, ⟨hs, h, less_zero.2 fun _ hj => hj⟩, Nat.le_refl _⟩
 refine ⟨u, (keys_mem hN).2 ⟨h1, h2, fun n hn hl => ?_⟩, h3⟩
 have h5 := h4 (less u (2 ^ n)) ⟨less_lt h1, hl, less_zero.2 fun j hj => less_zero.1 h3 j (by rw [less_bit, Bool.and_eq_true] at hj; exact hj.1)⟩
 have := pc_less (by omega) hn
 omega
theorem keyE_bl {J : List Lg} {s k : Nat} (hc : checkJ J = 0) (hs : s < 2 ^ J.length) (hk : J.length ≤ k) : keyE J (bl s k) = if left J s ≠ 0 then 21 else 0 := by
 have h12 : s < 2 ^ k := Nat.lt_of_lt_of_le hs (Nat.pow_le_pow_right (by omega) hk)
 unfold keyE
 rw [if_neg (by simp [hc]), isL_bl hs, if_neg (by decide), setB_bl h12]
end Go.Ab
end
section
namespace Go.Ab
open Go Go.Proofs
theorem one_bit {a n : Nat} (h0 : a ≠ 0) (h : ∀ j, a.testBit j = true → j = n) : a = 2 ^ n := by
 obtain ⟨j, hj⟩ := Nat.exists_testBit_of_ne_zero h0
 have e := h j hj
 subst e
 apply Nat.eq_of_testBit_eq
 intro i
 rw [Nat.testBit_two_pow, Bool.eq_iff_iff, decide_eq_true_eq]
 exact ⟨fun hi => (h i hi).symm, fun hi => by rw [← hi]; exact hj⟩
theorem key_alone {J : List Lg} {s n : Nat} (hN : J.length ≤ 12) (hc : ∀ p ∈ J, isL J.length p.2.1 = true) (hs : s ∈ keysTo J (2 ^ J.length)) (hn : s.testBit n = true) : ∃ t ∈ locksTo J (2 ^ J.length), s &&& t = 2 ^ n := by
 have hpw := pow12 hN
 obtain ⟨h1, h2, h3⟩ := (keys_mem hN).1 hs
 have hl := left_lock hN hc (h3 n hn)
 obtain ⟨t, ht1, ht2⟩ := min_under hl
 have htN : t < 2 ^ J.length := Nat.lt_of_le_of_lt (sub_le ht2) left_N
 refine ⟨t, List.mem_filter.2 ⟨List.mem_range.2 htN, ht1⟩, one_bit (lock_meets hN (by omega) htN (minLock_iff.1 ht1).1 h2) fun j hj => ?_⟩
 rw [Nat.testBit_and, Bool.and_eq_true] at hj
 false_or_by_contra
 rename_i hne
 have h4 := less_zero.1 ht2 j hj.2
 have h5 := left_key (J := J) (s := less s (2 ^ n))
 refine absurd h5 (and_ne.2 ⟨j, h4, ?_⟩)
 rw [less_bit, hj.1, Nat.testBit_two_pow]
 simp
 omega
theorem lock_alone {J : List Lg} {t n : Nat} (hN : J.length ≤ 12) (hc : ∀ p ∈ J, isL J.length p.2.1 = true) (ht : t ∈ locksTo J (2 ^ J.length)) (hn : t.testBit n = true) : ∃ s ∈ keysTo J (2 ^ J.length), s &&& t = 2 ^ n := by
 have hpw := pow12 hN
 obtain ⟨h1, h2⟩ := List.mem_filter.1 ht
 rw [List.mem_range] at h1
 obtain ⟨h3, h4⟩ := minLock_iff.1 h2
 have hC : ∀ j, (less (2 ^ J.length - 1) (less t (2 ^ n))).testBit j = (decide (j < J.length) && !(t.testBit j && !decide (n = j))) := fun j => by
  rw [less_bit, Nat.testBit_two_pow_sub_one, less_bit, Nat.testBit_two_pow]
 have hCl : less (2 ^ J.length - 1) (less t (2 ^ n)) < 2 ^ J.length := Nat.lt_of_le_of_lt less_le (by omega)
 generalize less (2 ^ J.length - 1) (less t (2 ^ n)) = C at *
 have hfree : left J C = 0 := by
  false_or_by_contra
  rename_i hne
  have hl := left_lock hN hc hne
  have hsub : ∀ j, (left J C).testBit j = true → t.testBit j = true ∧ n ≠ j := fun j hj => by
   have hjN := left_N' hj
   have hcj : C.testBit j = false := by
    cases hq : C.testBit j with
    | false => rfl
    | true => exact absurd (left_key (J := J) (s := C)) (and_ne.2 ⟨j, hj, hq⟩)
   have := hC j
   rw [hcj] at this
   simp [hjN] at this
   exact this
  have he := h4 _ hl (less_zero.2 fun j hj => (hsub j hj).1)
  rw [← he] at hn
  exact (hsub n hn).2 rfl
 obtain ⟨s, hs, hsC⟩ := keys_under hN hCl hfree
 have hs' := (keys_mem hN).1 hs
 refine ⟨s, hs, one_bit (lock_meets hN (by have := hs'.1; omega) h1 h3 hs'.2.1) fun j hj => ?_⟩
 rw [Nat.testBit_and, Bool.and_eq_true] at hj
 have h5 := less_zero.1 hsC j hj.1
 rw [hC j, hj.2] at h5
 simp at h5
 exact h5.2.symm
theorem cnt_and {s t : Nat} : ∀ {k : Nat}, k ≤ 12 → (bl s k).countP (fun x => decide (x ∈ bl t 12)) = (bl (s &&& t) k).length
 | 0, _ => rfl
 | k + 1, hk => by
  have ih := cnt_and (s := s) (t := t) (k := k) (by omega)
  have hm : ((k : Int) ∈ bl t 12) ↔ t.testBit k = true := by
   rw [bl_mem]
   constructor
   ·rintro ⟨j, h1, h2, h3⟩
    rw [show k = j by omega]; exact h3
   ·intro h; exact ⟨k, by omega, rfl, h⟩
  have e : ∀ a, bl a (k + 1) = if a.testBit k = true then bl a k ++ [(k : Int)] else bl a k := fun _ => rfl
  rw [e, e, Nat.testBit_and]
  generalize bl t 12 = T at *
  cases hs : s.testBit k <;> cases ht : t.testBit k <;> rw [ht] at hm <;> simp [ih, hm]
theorem cnt_one {s t n : Nat} (hn : n < 12) (h : s &&& t = 2 ^ n) : cntIn (bl t 12) (bl s 12) = 1 := by
 unfold cntIn
 rw [cnt_and (Nat.le_refl 12), h, bl_one hn]
 rfl
end Go.Ab
end
section
namespace Go.Ab
open Go Go.Proofs
def meetB (A B : List Int) : Bool := A.any fun x => decide (x ∈ B)
theorem meet49 {A B : List Int} {fa fb : Bool} {σ : List O} (hA : A.length ≤ 1000000) (hB : B.length ≤ 1000000) : FSpec Tryz.prog 49 [sl A fa, sl B fb] σ (.b (meetB A B)) σ := by
 refine FSpec.frame (σ := σ) ?_ (by simp) rfl
 refine fn49.spec0 mixed noIt_ok ?_
 rw [ic49]
 unfold meetB
 refine ab_seq_k fun K1 h1 => ?_
 simp
 refine h1 _ _ _ ?_
 clear h1 K1
 refine ab_seq_k fun K2 h2 => ?_
 refine ab_seq_k fun K3 h3 => ?_
 simp
 refine h3 _ _ _ ?_
 clear h3 K3
 refine ab_block_k fun K4 h4 => ?_
 refine ab_loop_k (fun m env σ => ∃ n : Nat, n + m = A.length ∧ (A.any fun x => decide (x ∈ B)) = ((A.drop n).any fun x => decide (x ∈ B)) ∧ env = [(0, sl A fa), (1, sl B fb), (5, .i .i64 n)] ∧ σ = []) A.length ⟨0, by omega, by simp, by simp, rfl⟩ ?_
 rintro m env σ ⟨n, hn, hd, rfl, rfl⟩ K5 h5
 rw [ic49_0]
 refine ab_seq_k fun K6 h6 => ?_
 refine ab_seq_k fun K7 h7 => ?_
 simp
 refine h7 _ _ _ ?_
 clear h7 K7
 refine ab_cond_of rfl (fun hc1 => ?_) (fun hc1 => ?_)
 ·have hnl : n < A.length := by simpa using hc1
  obtain ⟨b1, b2, bm⟩ := getD_get hnl
  rw [List.drop_eq_getElem_cons hnl, b2, List.any_cons] at hd
  generalize A.getD n 0 = y at *
  simp
  refine h6 _ _ _ ?_
  clear h6 K6
  refine ab_seq_k fun K8 h8 => ?_
  refine ab_block_k fun K9 h9 => ?_
  refine ab_seq_k fun K10 h10 => ?_
  simp [hnl, b1, b2]
  refine callK_of (has53 (by omega)) ?_
  simp
  refine h10 _ _ _ ?_
  by_cases hy : y ∈ B
  ·rw [decide_eq_true hy, Bool.true_or] at hd
   refine ab_cond_of rfl (fun _ => ?_) (fun h => by simp [hy] at h)
   refine ab_seq_k fun K11 h11 => ?_
   simp
   refine h11 _ _ _ ?_
   clear h11 K11
   simp
   refine fin_of 1 ?_
   rw [hd]
   simp [rs49]
  ·rw [decide_eq_false hy, Bool.false_or] at hd
   refine ab_cond_of rfl (fun h => by simp [hy] at h) (fun _ => ?_)
   simp
   refine h9 _ _ _ (h8 _ _ _ ?_)
   simp [wrap64 (x := (n : Int) + 1) (by omega) (by omega)]
   exact h5 _ _ _ (again (m - 1) (by omega) ⟨n + 1, by omega, hd, by simp, rfl⟩)
 ·have hnl : A.length ≤ n := by simp at hc1; omega
  rw [List.drop_of_length_le hnl, List.any_nil] at hd
  simp
  refine h4 _ _ _ (h2 _ _ _ ?_)
  refine ab_seq_k fun K12 h12 => ?_
  simp
  refine h12 _ _ _ ?_
  clear h12 K12
  simp
  refine fin_of 1 ?_
  rw [hd]
  simp [rs49]
end Go.Ab
end
section
namespace Go.Ab
open Go Go.Proofs
def lls (B : List (List Int × Bool)) : List V := B.map fun p => sl p.1 p.2
@[simp] theorem lls_len {B : List (List Int × Bool)} : (lls B).length = B.length := by simp [lls]
theorem lls_get {B : List (List Int × Bool)} {i : Nat} {p : List Int × Bool} (h : B[i]? = some p) : (lls B)[i]? = some (sl p.1 p.2) := by unfold lls; rw [List.getElem?_map, h]; rfl
@[simp] theorem lls_pure {B : List (List Int × Bool)} : pureL (lls B) = true := by
 rw [pureL_all]
 intro x hx
 obtain ⟨p, -, rfl⟩ := List.mem_map.1 hx
 simp
end Go.Ab
end
section
namespace Go.Ab
open Go Go.Proofs
theorem meetB_iff {A B : List Int} : meetB A B = true ↔ ∃ x, x ∈ A ∧ x ∈ B := by
 unfold meetB
 rw [List.any_eq_true]
 constructor
 ·rintro ⟨x, h1, h2⟩; exact ⟨x, h1, of_decide_eq_true h2⟩
 ·rintro ⟨x, h1, h2⟩; exact ⟨x, h1, decide_eq_true h2⟩
theorem meet_set {A B : List Int} (hA : ∀ x ∈ A, 0 ≤ x) (hB : ∀ x ∈ B, 0 ≤ x) : meetB A B = true ↔ setB A &&& setB B ≠ 0 := by
 rw [meetB_iff, and_ne]
 constructor
 ·rintro ⟨x, h1, h2⟩
  obtain ⟨n, rfl⟩ : ∃ n : Nat, x = n := ⟨x.toNat, by have := hA x h1; omega⟩
  exact ⟨n, (setB_bit hA).2 h1, (setB_bit hB).2 h2⟩
 ·rintro ⟨j, h1, h2⟩
  exact ⟨j, (setB_bit hA).1 h1, (setB_bit hB).1 h2⟩
end Go.Ab
end
section
namespace Go.Ab
open Go Go.Proofs
theorem alone50 {A B : List (List Int × Bool)} {fA fB : Bool} {σ : List O} (hA : A.length ≤ 1000) (hB : B.length ≤ 1000) (hal : ∀ p ∈ A, p.1.length ≤ 1000) (hbl : ∀ q ∈ B, q.1.length ≤ 1000)
  (hex : ∀ p ∈ A, ∀ x ∈ p.1, ∃ q ∈ B, cntIn q.1 p.1 = 1 ∧ x ∈ q.1) : FSpec Tryz.prog 50 [.ss (lls A) A.length fA, .ss (lls B) B.length fB] σ (.b true) σ := by
 refine FSpec.frame (σ := σ) ?_ (by simp) rfl
 refine fn50.spec0 mixed noIt_ok ?_
 rw [ic50]
 refine ab_seq_k fun K1 h1 => ?_
 simp
 refine h1 _ _ _ ?_
 clear h1 K1
 refine ab_seq_k fun K2 h2 => ?_
 refine ab_seq_k fun K3 h3 => ?_
 simp
 refine h3 _ _ _ ?_
 clear h3 K3
 refine ab_block_k fun K4 h4 => ?_
 refine ab_loop_k (fun m env σ => ∃ i : Nat, i + m = A.length ∧ env = [(0, .ss (lls A) A.length fA), (1, .ss (lls B) B.length fB), (5, .i .i64 i)] ∧ σ = []) A.length ⟨0, by omega, by simp, rfl⟩ ?_
 rintro m env σ ⟨i, hi, rfl, rfl⟩ K5 h5
 rw [ic50_3]
 refine ab_seq_k fun K6 h6 => ?_
 refine ab_seq_k fun K7 h7 => ?_
 simp
 refine h7 _ _ _ ?_
 clear h7 K7
 refine ab_cond_of rfl (fun hc1 => ?_) (fun hc1 => ?_)
 ·have hil : i < A.length := by simp at hc1; omega
  have hp : A[i]? = some A[i] := List.getElem?_eq_getElem hil
  have hpm : A[i] ∈ A := List.getElem_mem hil
  generalize A[i] = p at *
  have hpl := hal p hpm
  have hlp := lls_get hp
  obtain ⟨g1, g2⟩ := List.getElem?_eq_some_iff.1 hlp
  have hexp := hex p hpm
  simp
  refine h6 _ _ _ ?_
  clear h6 K6
  refine ab_seq_k fun K8 h8 => ?_
  refine ab_block_k fun K9 h9 => ?_
  refine ab_seq_k fun K10 h10 => ?_
  simp
  refine h10 _ _ _ ?_
  clear h10 K10
  refine ab_block_k fun K11 h11 => ?_
  refine ab_loop_k (fun m env σ => ∃ k : Nat, k + m = p.1.length ∧ env = [(0, .ss (lls A) A.length fA), (1, .ss (lls B) B.length fB), (5, .i .i64 i), (6, .i .i64 k)] ∧ σ = []) p.1.length ⟨0, by omega, by simp, rfl⟩ ?_
  rintro m2 env σ ⟨k, hk, rfl, rfl⟩ K12 h12
  rw [ic50_2]
  refine ab_seq_k fun K13 h13 => ?_
  refine ab_seq_k fun K14 h14 => ?_
  simp [hil, hlp, g1, g2]
  refine h14 _ _ _ ?_
  clear h14 K14
  refine ab_cond_of rfl (fun hc2 => ?_) (fun hc2 => ?_)
  ·have hkl : k < p.1.length := by simp at hc2; omega
   obtain ⟨b1, b2, bm⟩ := getD_get hkl
   obtain ⟨q0, hq0, hq1, hq2⟩ := hexp _ bm
   generalize p.1.getD k 0 = y at *
   simp
   refine h13 _ _ _ ?_
   clear h13 K13
   refine ab_seq_k fun K15 h15 => ?_
   refine ab_block_k fun K16 h16 => ?_
   refine ab_seq_k fun K17 h17 => ?_
   simp
   refine h17 _ _ _ ?_
   clear h17 K17
   refine ab_seq_k fun K18 h18 => ?_
   refine ab_seq_k fun K19 h19 => ?_
   simp
   refine h19 _ _ _ ?_
   clear h19 K19
   refine ab_block_k fun K20 h20 => ?_
   refine ab_loop_k (fun m env σ => ∃ (n : Nat) (fd : Bool), n + m = B.length ∧ (fd = false → ∀ q, ∀ j, j < n → B[j]? = some q → ¬ (cntIn q.1 p.1 = 1 ∧ y ∈ q.1)) ∧ env = [(0, .ss (lls A) A.length fA), (1, .ss (lls B) B.length fB), (5, .i .i64 i), (6, .i .i64 k), (7, .b fd), (8, .i .i64 n)] ∧ σ = []) B.length ⟨0, false, by omega, fun _ q j hj => by omega, by simp, rfl⟩ ?_
   rintro m3 env σ ⟨n, fd, hn, hfd, rfl, rfl⟩ K21 h21
   rw [ic50_1]
   have hexit : ∀ env, fd = true ∨ n = B.length → get env 0 = .ss (lls A) A.length fA → get env 1 = .ss (lls B) B.length fB → get env 5 = .i .i64 i → get env 6 = .i .i64 k → get env 7 = .b fd → K20 (some 0) env [] := by
    intro env hor w0 w1 w5 w6 w7
    have hfd1 : fd = true := by
     rcases hor with h | h
     ·exact h
     ·cases fd with
      | true => rfl
      | false =>
       obtain ⟨j, hj⟩ := List.mem_iff_getElem?.1 hq0
       exact absurd ⟨hq1, hq2⟩ (hfd rfl q0 j (by rw [h]; exact (List.getElem?_eq_some_iff.1 hj).1) hj)
    subst hfd1
    refine h20 _ _ _ (h18 _ _ _ ?_)
    refine ab_seq_k fun K22 h22 => ?_
    simp [w7]
    refine h22 _ _ _ ?_
    clear h22 K22
    refine ab_cond_of rfl (fun h => by cases h) (fun _ => ?_)
    simp [w0, w1, w5, w6]
    refine h16 _ _ _ (h15 _ _ _ ?_)
    simp [w0, w1, w5, w6, wrap64 (x := (k : Int) + 1) (by omega) (by omega)]
    exact h12 _ _ _ (again (m2 - 1) (by omega) ⟨k + 1, by omega, by simp, rfl⟩)
   refine ab_seq_k fun K23 h23 => ?_
   by_cases hnl : n < B.length
   ·cases fd with
    | true =>
     refine ab_seq_k fun K24 h24 => ?_
     simp [hnl]
     refine h24 _ _ _ ?_
     clear h24 K24
     refine ab_cond_of rfl (fun h => by cases h) (fun _ => ?_)
     simp
     exact hexit _ (.inl rfl) rfl rfl rfl rfl rfl
    | false =>
     refine ab_seq_k fun K25 h25 => ?_
     simp [hnl]
     refine h25 _ _ _ ?_
     clear h25 K25
     refine ab_cond_of rfl (fun _ => ?_) (fun h => by cases h)
     clear hexit
     have hq : B[n]? = some B[n] := List.getElem?_eq_getElem hnl
     have hqm : B[n] ∈ B := List.getElem_mem hnl
     generalize B[n] = q at *
     have hql := hbl q hqm
     have hlq := lls_get hq
     obtain ⟨g3, g4⟩ := List.getElem?_eq_some_iff.1 hlq
     simp
     refine h23 _ _ _ ?_
     clear h23 K23
     refine ab_seq_k fun K26 h26 => ?_
     refine ab_block_k fun K27 h27 => ?_
     refine ab_seq_k fun K28 h28 => ?_
     simp
     refine h28 _ _ _ ?_
     clear h28 K28
     refine ab_seq_k fun K29 h29 => ?_
     refine ab_seq_k fun K30 h30 => ?_
     simp
     refine h30 _ _ _ ?_
     clear h30 K30
     refine ab_block_k fun K31 h31 => ?_
     refine ab_loop_k (fun m env σ => ∃ j : Nat, j + m = p.1.length ∧ env = [(0, .ss (lls A) A.length fA), (1, .ss (lls B) B.length fB), (5, .i .i64 i), (6, .i .i64 k), (8, .i .i64 n), (9, .i .i64 (cntIn q.1 (p.1.take j))), (10, .i .i64 j)] ∧ σ = []) p.1.length ⟨0, by omega, by simp [cntIn], rfl⟩ ?_
     rintro m4 env σ ⟨j, hj, rfl, rfl⟩ K32 h32
     rw [ic50_0]
     have hcl := List.countP_le_length (p := fun x => decide (x ∈ q.1)) (l := p.1.take j)
     rw [List.length_take] at hcl
     have hcu : cntIn q.1 (p.1.take j) ≤ p.1.length := by unfold cntIn; omega
     refine ab_seq_k fun K33 h33 => ?_
     refine ab_seq_k fun K34 h34 => ?_
     simp [hil, hlp, g1, g2]
     refine h34 _ _ _ ?_
     clear h34 K34
     refine ab_cond_of rfl (fun hc3 => ?_) (fun hc3 => ?_)
     ·have hjl : j < p.1.length := by simp at hc3; omega
      obtain ⟨d1, d2, dm⟩ := getD_get hjl
      have hcs := cntIn_snoc (l := q.1) d1
      generalize p.1.getD j 0 = z at *
      simp
      refine h33 _ _ _ ?_
      clear h33 K33
      refine ab_seq_k fun K35 h35 => ?_
      refine ab_block_k fun K36 h36 => ?_
      refine ab_seq_k fun K37 h37 => ?_
      simp [abDs_consU, drU, recheck_cons, recheck_nil, rcK, IS.dst, hil, hlp, g1, g2, hnl, hlq, g3, g4, hjl, d1, d2]
      refine callK_of (has53 (by omega)) ?_
      simp [abDs_consU, drU, recheck_cons, recheck_nil, rcK, IS.dst]
      refine h37 _ _ _ ?_
      clear h37 K37
      generalize cntIn q.1 (p.1.take j) = c at *
      by_cases hz : z ∈ q.1
      ·rw [if_pos hz] at hcs
       refine ab_cond_of rfl (fun _ => ?_) (fun h => by simp [hz] at h)
       simp [wrap64 (x := (c : Int) + 1) (by omega) (by omega)]
       refine h36 _ _ _ (h35 _ _ _ ?_)
       simp [wrap64 (x := (j : Int) + 1) (by omega) (by omega)]
       exact h32 _ _ _ (again (m4 - 1) (by omega) ⟨j + 1, by omega, by simp [hcs], rfl⟩)
      ·rw [if_neg hz, Nat.add_zero] at hcs
       refine ab_cond_of rfl (fun h => by simp [hz] at h) (fun _ => ?_)
       simp
       refine h36 _ _ _ (h35 _ _ _ ?_)
       simp [wrap64 (x := (j : Int) + 1) (by omega) (by omega)]
       exact h32 _ _ _ (again (m4 - 1) (by omega) ⟨j + 1, by omega, by simp [hcs], rfl⟩)
     ·have hjl : p.1.length ≤ j := by simp at hc3; omega
      rw [List.take_of_length_le hjl]
      simp
      refine h31 _ _ _ (h29 _ _ _ ?_)
      clear h29 h31 h32 h33
      have hend : ∀ env fd', get env 0 = .ss (lls A) A.length fA → get env 1 = .ss (lls B) B.length fB → get env 5 = .i .i64 i → get env 6 = .i .i64 k → get env 7 = .b fd' → get env 8 = .i .i64 n → fd' = (decide (cntIn q.1 p.1 = 1) && decide (y ∈ q.1)) → K27 (some 0) env [] := by
       intro env fd' w0 w1 w5 w6 w7 w8 hv
       refine h27 _ _ _ (h26 _ _ _ ?_)
       simp [w0, w1, w5, w6, w7, w8, wrap64 (x := (n : Int) + 1) (by omega) (by omega)]
       refine h21 _ _ _ (again (m3 - 1) (by omega) ⟨n + 1, fd', by omega, fun hf q' j' hj' hq' => ?_, by simp, rfl⟩)
       by_cases h : j' < n
       ·exact hfd rfl q' j' h hq'
       ·rw [show j' = n by omega, hq] at hq'
        cases hq'
        rintro ⟨c1, c2⟩
        rw [hf, c1] at hv
        simp [c2] at hv
      by_cases hc1 : cntIn q.1 p.1 = 1
      ·simp [abDs_consU, drU, recheck_cons, recheck_nil, rcK, IS.dst, hil, hlp, g1, g2, hnl, hlq, g3, g4, hkl, b1, b2, hc1]
       refine callK_of (has53 (by omega)) ?_
       simp [abDs_consU, drU, recheck_cons, recheck_nil, rcK, IS.dst]
       exact hend _ _ rfl rfl rfl rfl rfl rfl (by simp [hc1])
      ·have hc1' : ¬ ((cntIn q.1 p.1 : Nat) : Int) = 1 := by omega
       simp [abDs_consU, drU, recheck_cons, recheck_nil, rcK, IS.dst, hc1']
       exact hend _ _ rfl rfl rfl rfl rfl rfl (by simp [hc1])
   ·refine ab_seq_k fun K38 h38 => ?_
    simp [hnl]
    refine h38 _ _ _ ?_
    clear h38 K38
    refine ab_cond_of rfl (fun h => by cases h) (fun _ => ?_)
    simp
    exact hexit _ (.inr (by omega)) rfl rfl rfl rfl rfl
  ·have hkl : k = p.1.length := by simp at hc2; omega
   simp
   refine h11 _ _ _ (h9 _ _ _ (h8 _ _ _ ?_))
   simp [wrap64 (x := (i : Int) + 1) (by omega) (by omega)]
   exact h5 _ _ _ (again (m - 1) (by omega) ⟨i + 1, by omega, by simp, rfl⟩)
 ·simp
  refine h4 _ _ _ (h2 _ _ _ ?_)
  refine ab_seq_k fun K40 h40 => ?_
  simp
  refine h40 _ _ _ ?_
  clear h40 K40
  simp
  exact fin_of 1 (by simp [rs50])
end Go.Ab
end
section
namespace Go.Ab
open Go Go.Proofs
theorem locks84 {J : List Lg} {f : Bool} {σ : List O} (hJ : JOK J) : FSpecQ Tryz.prog 84 [heapV J f] σ (fun v σ' => Gr σ.length 1 σ' v (locksTo J (2 ^ J.length)).length (us (locksTo J (2 ^ J.length)))) := by
 have hN := hJ.2.1
 have hh : (cellsOf (heapV J f)) = some [heapV J f] := rfl
 have hlk := fun σ s hs => isLock89 (J := J) (f := f) (s := s) (σ := σ) hJ hs
 have hat : ∀ σ, HeapAt J f (heapV J f) σ := fun σ => .inl ⟨_, _, rfl⟩
 have hpw := pow12 hN
 have hlb : ∀ s, s < 2 ^ J.length → s < 65536 := fun s h => by omega
 refine qf84.specQ mixed itT_ok ?_
 rw [q84]
 generalize heapV J f = H at *
 refine ab_seq_k fun K1 h1 => ?_
 simp [hh]
 refine h1 _ _ _ ?_
 clear h1 K1
 refine ab_seq_k fun K2 h2 => ?_
 simp
 refine h2 _ _ _ ?_
 clear h2 K2
 refine ab_seq_k fun K3 h3 => ?_
 refine ab_seq_k fun K4 h4 => ?_
 simp
 refine callK_of (sets91 hh) ?_
 simp
 refine h4 _ _ _ ?_
 clear h4 K4
 refine ab_block_k fun K5 h5 => ?_
 generalize hL0 : σ.length = L0 at *
 generalize hW : 2 ^ J.length = W at *
 refine ⟨W, XSet, SetAt J f (L0 + 1 + 1) H, sets_it hN hW, fun i σ2 => σ2[L0]? = some (.row 0 [H]) ∧ σ2[L0 + 1 + 1]? = some (.row 0 [H]) ∧ ∃ v, σ2[L0 + 1]? = some (.row 0 [v]) ∧ Gr (L0 + 3) 1 σ2 v (locksTo J i).length (us (locksTo J i)), fun i σ2 h => ⟨h.2.1, hat _⟩, ⟨?_, ?_, .ss [] 0 true, ?_, ?_⟩, ?_, ?_⟩
 ·rw [List.getElem?_append_right (by omega), hL0, Nat.sub_self]; rfl
 ·rw [List.getElem?_append_right (by omega), hL0, show L0 + 1 + 1 - L0 = 2 by omega]; rfl
 ·rw [List.getElem?_append_right (by omega), hL0, show L0 + 1 - L0 = 1 by omega]; rfl
 ·simpa [locksTo, us] using Gr.nil
 ·rintro i x σ2 g hi ⟨rfl, rfl⟩ ⟨q0, q2, v, q1, hv⟩
  refine ⟨rfl, ?_⟩
  generalize hKR : roundK _ _ _ = KR
  rw [List.append_nil]
  simp
  rw [q84_0]
  have hi16 := hlb i hi
  obtain ⟨hq2, -⟩ := List.getElem?_eq_some_iff.1 q2
  have hc0 : (σ2 ++ [O.row 0 [V.i .u16 i]])[σ2.length]? = some (O.row 0 [V.i .u16 i]) := by simp
  replace q0 := app_get (g := [O.row 0 [V.i .u16 i]]) q0
  replace q1 := app_get (g := [O.row 0 [V.i .u16 i]]) q1
  replace q2 := app_get (g := [O.row 0 [V.i .u16 i]]) q2
  replace hv := hv.app (g := [O.row 0 [V.i .u16 i]])
  have hcl : L0 + 3 ≤ σ2.length := by omega
  have hdone : ∀ σ3 v, σ3[L0]? = some (.row 0 [H]) → σ3[L0 + 1 + 1]? = some (.row 0 [H]) → σ3[L0 + 1]? = some (.row 0 [v]) → Gr (L0 + 3) 1 σ3 v (locksTo J (i + 1)).length (us (locksTo J (i + 1))) → ∀ env, KR (some 0) env σ3 := by
   intro σ3 v a1 a2 a3 a4 env
   rw [← hKR]
   exact ⟨rfl, .inl ⟨a1, a2, v, a3, a4⟩⟩
  clear hKR hq2
  have hU : σ2.length < (σ2 ++ [O.row 0 [V.i .u16 i]]).length := by simp
  generalize σ2 ++ [O.row 0 [V.i .u16 i]] = U at *
  generalize σ2.length = c at *
  obtain ⟨hq0, q0'⟩ := List.getElem?_eq_some_iff.1 q0
  obtain ⟨hq1, q1'⟩ := List.getElem?_eq_some_iff.1 q1
  obtain ⟨hqc, qc'⟩ := List.getElem?_eq_some_iff.1 hc0
  have hks := locksTo_succ (J := J) (i := i)
  have hkl := locksTo_len (J := J) (i := i)
  have hlt : ∀ x ∈ locksTo J i, x < 65536 := fun x hx => by
   have := List.mem_range.1 (List.mem_filter.1 hx).1
   omega
  have h110 := contains110 (first := []) (fp := 111) (cap := [V.p c 0 0]) (p := fun x => decide (less x i = 0)) hv.slp (by omega) (fun x hx => part111 (hlt x hx) hi16 hc0)
  refine ab_block_k fun K16 h16 => ?_
  refine ab_seq_k fun K18 h18 => ?_
  have hK18 : ∀ env cc, get env 3 = .p (L0 + 1) 0 0 → get env 4 = .p c 0 0 → get env 20 = .b cc → cc = minLock J i → K18 (some 0) env U := by
   intro env cc w3 w4 w20 hcv
   refine h18 _ _ _ ?_
   clear h18
   cases cc with
   | false =>
    rw [← hcv, if_neg (by simp)] at hks
    refine ab_cond_of w20 (fun h => by cases h) (fun _ => ?_)
    simp
    refine h16 _ _ _ ?_
    exact hdone U v q0 q2 q1 (by rw [hks]; exact hv) _
   | true =>
    rw [← hcv, if_pos rfl] at hks
    refine ab_cond_of w20 (fun _ => ?_) (fun h => by cases h)
    simp [w3, w4, q1, q1', hc0, qc']
    refine appG hv (by omega) (by omega) (by omega) rfl ?_
    intro v' σ' hv' hgr
    have hbid : ∀ j, j < L0 + 3 → idOf v ≠ some j := fun j hj e => by have := (hv.id_ge e).1; omega
    have r0 := hgr.get (hbid L0 (by omega)) q0
    have r1 := hgr.get (hbid (L0 + 1) (by omega)) q1
    have r2 := hgr.get (hbid (L0 + 1 + 1) (by omega)) q2
    obtain ⟨hr1, r1'⟩ := List.getElem?_eq_some_iff.1 r1
    simp [w3, w4, r1, r1', hv'.one]
    refine h16 _ _ _ ?_
    refine hdone _ v' ?_ ?_ (List.getElem?_set_self hr1) ?_ _
    ·rw [List.getElem?_set_ne (by omega)]; exact r0
    ·rw [List.getElem?_set_ne (by omega)]; exact r2
    ·have h1 := hv'.setlt (i := L0 + 1) (o := O.row 0 [v']) (by omega)
     rw [hks]
     simpa [us] using h1
  clear h18 hdone
  by_cases hi0 : i = 0
  ·have hm : minLock J i = false := by simp [minLock, lockB, hi0]
   simp [hc0, qc', hi0]
   exact hK18 _ _ rfl rfl rfl hm.symm
  ·cases hl : lockB J i with
   | false =>
    have hm : minLock J i = false := by simp [minLock, hl]
    simp [hc0, qc', hi0, q0, q0']
    refine callK_of (hlk _ _ hi) ?_
    simp [hl]
    exact hK18 _ _ rfl rfl rfl hm.symm
   | true =>
    rw [any_min hl] at h110
    simp [hc0, qc', hi0, q0, q0']
    refine callK_of (hlk _ _ hi) ?_
    simp [hl, q1, q1']
    refine callK_of h110 ?_
    simp
    exact hK18 _ _ rfl rfl rfl rfl
 ·rintro σ2 ⟨q0, q2, v, q1, hv⟩
  refine h5 _ _ _ (h3 _ _ _ ?_)
  obtain ⟨hq1, q1'⟩ := List.getElem?_eq_some_iff.1 q1
  refine ab_seq_k fun K30 h30 => ?_
  simp [q1, q1']
  refine callR_of (tight113 hv.slp ?_ ?_ ?_) ?_
  ·have := locksTo_len (J := J) (i := W); omega
  ·intro s hs
   have := List.mem_range.1 (List.mem_filter.1 hs).1
   omega
  ·intro i k x y hx hy h
   have he := locks_anti (List.mem_of_getElem? hx) (List.mem_of_getElem? hy) h
   subst he
   have hnd : (locksTo J W).Nodup := List.Nodup.sublist List.filter_sublist List.nodup_range
   exact (List.getElem?_inj (List.getElem?_eq_some_iff.1 hy).1 hnd).1 (hy.trans hx.symm)
  ·intro v' σ' hv'
   simp
   refine h30 _ _ _ ?_
   simp
   refine fin_Q ?_
   simp [rs84]
   exact hv'.mono (by omega)
theorem locks84F {J : List Lg} {f : Bool} {σ : List O} (hJ : JOK J) : FSpec Tryz.prog 84 [heapV J f] σ (.ss (us (locksTo J (2 ^ J.length))) (locksTo J (2 ^ J.length)).length ((locksTo J (2 ^ J.length)).length == 0)) σ := by
 refine FSpec.frame (σ := σ) ?_ (by simp) (by simp)
 exact (locks84 hJ).freeze fun v σ' h => ⟨2, frz_G h (by simp)⟩
end Go.Ab
end
section
namespace Go.Ab
open Go Go.Proofs
theorem bl_nn {s k : Nat} : ∀ x ∈ bl s k, 0 ≤ x := fun x hx => by
 obtain ⟨j, -, rfl, -⟩ := bl_mem.1 hx
 omega
end Go.Ab
end
section
namespace Go.Ab
open Go Go.Proofs
def bV (R : List Nat) : List (List Int × Bool) := R.map fun s => (bl s 12, (bl s 12).length == 0)
@[simp] theorem bV_len {R : List Nat} : (bV R).length = R.length := by simp [bV]
theorem lls_bV {R : List Nat} : lls (bV R) = lv R := by unfold lls bV lv; rw [List.map_map]; rfl
theorem lockE_bl {J : List Lg} {s : Nat} (hc : checkJ J = 0) (hN : J.length ≤ 12) (hs : s < 2 ^ J.length) (hl : lockB J s = true) : lockE J (bl s 12) = 0 := by
 have h12 : s < 2 ^ 12 := Nat.lt_of_lt_of_le hs (Nat.pow_le_pow_right (by omega) hN)
 unfold lockE
 rw [if_neg (by simp [hc]), isL_bl hs, setB_bl h12, hl, if_neg (by decide), if_neg (by decide)]
end Go.Ab
end
section
namespace Go.Ab
open Go Go.Proofs
def locksV (J : List Lg) : V := if checkJ J ≠ 0 then .tup [.ss [] 0 true, .i .i64 (checkJ J)] else .tup [.ss (lv (lexS (locksTo J (2 ^ J.length)))) (locksTo J (2 ^ J.length)).length ((locksTo J (2 ^ J.length)).length == 0), .i .i64 0]
theorem locksV_pure {J} : (locksV J).pure = true := by
 unfold locksV
 split
 ·rfl
 ·simp
theorem locks36 {J : List Lg} {f : Bool} {σ : List O} (hJ : J.length ≤ 1000000) (hl : ∀ x ∈ J, x.2.1.length ≤ 1000000) : FSpec Tryz.prog 36 [jamV J f] σ (locksV J) σ := by
 refine FSpec.frame (σ := σ) ?_ (by simp) locksV_pure
 have h62 := fun σ => open62 (f := f) (l := []) (fl := true) (σ := σ) hJ hl (by simp)
 refine fn36.spec0 mixed noIt_ok ?_
 rw [ic36]
 refine ab_seq_k fun K1 h1 => ?_
 simp
 refine h1 _ _ _ ?_
 clear h1 K1
 refine ab_seq_k fun K2 h2 => ?_
 simp
 refine callK_of (h62 _) ?_
 rcases open_nil (f := f) hl with ⟨hc, ho⟩ | ⟨hc, hJO, ho⟩
 ·have hv : locksV J = .tup [.ss [] 0 true, .i .i64 (checkJ J)] := by unfold locksV; rw [if_pos hc]
  rw [ho]
  simp
  refine h2 _ _ _ ?_
  clear h2 K2
  refine ab_seq_k fun K3 h3 => ?_
  refine ab_seq_k fun K5 h5 => ?_
  simp
  refine h5 _ _ _ ?_
  clear h5 K5
  refine ab_cond_of rfl (fun _ => ?_) (fun h => by simp at h; omega)
  refine ab_seq_k fun K6 h6 => ?_
  simp
  refine h6 _ _ _ ?_
  clear h6 K6
  simp
  refine fin_of 3 ?_
  simp [rs36, hv]
 ·have hN := hJO.2.1
  have hpw := pow12 hN
  have hk := fun σ => locks84F (J := J) (f := f) (σ := σ) hJO
  have hkl := locksTo_len (J := J) (i := 2 ^ J.length)
  have hmem : ∀ s ∈ locksTo J (2 ^ J.length), s < 2 ^ 12 := fun s hs => by
   have := (List.mem_filter.1 hs).1
   rw [List.mem_range] at this
   omega
  have hv : locksV J = .tup [.ss (lv (lexS (locksTo J (2 ^ J.length)))) (locksTo J (2 ^ J.length)).length ((locksTo J (2 ^ J.length)).length == 0), .i .i64 0] := by unfold locksV; rw [if_neg (by simp [hc])]
  have hls := fun f σ => lists76 (L := locksTo J (2 ^ J.length)) (f := f) (σ := σ) hmem (by omega)
  generalize locksTo J (2 ^ J.length) = L at *
  rw [ho]
  simp
  refine h2 _ _ _ ?_
  clear h2 K2
  refine ab_seq_k fun K3 h3 => ?_
  refine ab_seq_k fun K5 h5 => ?_
  simp
  refine h5 _ _ _ ?_
  clear h5 K5
  refine ab_cond_of rfl (fun h => by simp at h) (fun _ => ?_)
  simp
  refine h3 _ _ _ ?_
  clear h3 K3
  refine ab_seq_k fun K7 h7 => ?_
  simp
  refine callK_of (hk _) ?_
  simp
  refine callK_of (hls _ _) ?_
  simp
  refine h7 _ _ _ ?_
  simp
  refine fin_of 3 ?_
  simp [rs36, hv]
end Go.Ab
end
section
namespace Go.Ab
open Go Go.Proofs
theorem works_run : runY 18 [] = some (.b true, []) := by kernel_rfl
theorem works_ok : FSpec Tryz.prog 18 [] [] (.b true) [] := runY_ok works_run
theorem wk (σ : List O) : FSpec Tryz.prog 18 [] σ (.b true) σ := FSpec.frame works_ok (by simp) rfl
end Go.Ab
end
