/- The reference's Between. -/
import Derived.Test.YthcbimgdbhkikaaXC
set_option linter.unusedVariables false
set_option linter.unusedSimpArgs false
set_option maxHeartbeats 4000000
namespace Go.Ab
open Go Go.Proofs

theorem lsV_takeB : ∀ {l : List (Int × Int)} {i : Nat}, (lsV l).take (i * 2) = lsV (l.take i)
  | [], i => by simp [lsV]
  | p :: l, 0 => by simp [lsV]
  | p :: l, i + 1 => by
    rw [show (i + 1) * 2 = i * 2 + 1 + 1 by omega]
    simp only [lsV, List.take_succ_cons, lsV_takeB]
theorem lsV_dropB : ∀ {l : List (Int × Int)} {i : Nat}, (lsV l).drop (i * 2) = lsV (l.drop i)
  | [], i => by simp [lsV]
  | p :: l, 0 => by simp [lsV]
  | p :: l, i + 1 => by
    rw [show (i + 1) * 2 = i * 2 + 1 + 1 by omega]
    simp only [lsV, List.drop_succ_cons, lsV_dropB]
/-- A pair written over. -/
theorem lsV_put {l : List (Int × Int)} {i : Nat} {x y : Int} (h : i < l.length) : splice (lsV l) (i * 2) [.i .i64 x, .i .i64 y] = lsV (l.set i (x, y)) := by
  unfold splice
  have e : l.set i (x, y) = l.take i ++ (x, y) :: l.drop (i + 1) := List.set_eq_take_append_cons_drop.trans (by rw [if_pos h])
  rw [lsV_takeB, show i * 2 + [V.i IntKind.i64 x, V.i IntKind.i64 y].length = (i + 1) * 2 by simp; omega, lsV_dropB, e, lsV_append]
  simp [lsV]
theorem lsV_rep {n : Nat} : rep n [V.i .i64 0, V.i .i64 0] = lsV (List.replicate n (0, 0)) := by
  induction n with
  | zero => rfl
  | succ n ih =>
    rw [List.replicate_succ, lsV, ← ih]
    rfl

/-- Pairs of places from lo on. -/
def outB (n : Nat) (f : Nat → Int × Int) (lo : Nat) : List (Int × Int) := (List.range n).map fun i => if lo ≤ i then f i else (0, 0)
@[simp] theorem outB_len {n f lo} : (outB n f lo).length = n := by simp [outB]
theorem outB_get {n f lo i} (h : i < n) : (outB n f lo)[i]? = some (if lo ≤ i then f i else (0, 0)) := by
  simp [outB, h]
theorem outB_set {n f lo} (h : lo < n) : (outB n f (lo + 1)).set lo (f lo) = outB n f lo := by
  apply List.ext_getElem?
  intro i
  by_cases hi : i < n
  · by_cases hl : i = lo
    · subst hl
      rw [List.getElem?_set_self (by simpa using hi), outB_get hi, if_pos (Nat.le_refl _)]
    · rw [List.getElem?_set_ne (fun hE => hl hE.symm), outB_get hi, outB_get hi]
      have : (lo + 1 ≤ i) ↔ (lo ≤ i) := by omega
      simp only [this]
  · rw [List.getElem?_eq_none (by simp; omega), List.getElem?_eq_none (by simp; omega)]

/-- The heap of the reference's Between. -/
structure HpX (σ : List O) (t b : List Int) (ft fb : Bool) (r o : Ru) (Q : List (Int × Int)) : Prop where
  h0 : σ[0]? = some (.row 0 [sl t ft, sl b fb])
  h1 : σ[1]? = some (.row 0 r.cells)
  h2 : σ[2]? = some (.row 0 o.cells)
  h3 : σ[3]? = some (.row 0 [.i .i64 0, .i .i64 0])
  h4 : σ[4]? = some (.row 0 (lsV Q))
theorem HpX.app {σ g : List O} {t b ft fb r o Q} (h : HpX σ t b ft fb r o Q) : HpX (σ ++ g) t b ft fb r o Q := ⟨app_get h.h0, app_get h.h1, app_get h.h2, app_get h.h3, app_get h.h4⟩
theorem HpX.len {σ : List O} {t b ft fb r o Q} (h : HpX σ t b ft fb r o Q) : 5 ≤ σ.length := by
  have := (List.getElem?_eq_some_iff.1 h.h4).1
  omega
theorem HpX.setQ {σ : List O} {t b ft fb r o Q} (h : HpX σ t b ft fb r o Q) (Q' : List (Int × Int)) : HpX (σ.set 4 (.row 0 (lsV Q'))) t b ft fb r o Q' := by
  have := h.len
  exact ⟨by rw [List.getElem?_set_ne (by omega)]; exact h.h0, by rw [List.getElem?_set_ne (by omega)]; exact h.h1, by rw [List.getElem?_set_ne (by omega)]; exact h.h2,
    by rw [List.getElem?_set_ne (by omega)]; exact h.h3, List.getElem?_set_self (by omega)⟩
theorem HpX.setG {σ : List O} {t b ft fb r o Q} (h : HpX σ t b ft fb r o Q) {i : Nat} {x : O} (h5 : 5 ≤ i) : HpX (σ.set i x) t b ft fb r o Q :=
  ⟨by rw [List.getElem?_set_ne (by omega)]; exact h.h0, by rw [List.getElem?_set_ne (by omega)]; exact h.h1, by rw [List.getElem?_set_ne (by omega)]; exact h.h2,
    by rw [List.getElem?_set_ne (by omega)]; exact h.h3, by rw [List.getElem?_set_ne (by omega)]; exact h.h4⟩

theorem refBetween {t b : List Int} {ft fb : Bool} {r o : Ru} (hsz : Sz t b) : FSpec Try.prog 39 [.agg [sl t ft, sl b fb], .agg r.cells, .agg o.cells] [] (btwR t b r o) [] := by
  refine fn39.spec0 mixed noIt_ok ?_
  rw [ic39]
  have hchk := refCheck (t := t) (b := b) (ft := ft) (fb := fb) (r := r) hsz.t1 hsz.b1 hsz.bb
  rw [openE_one] at hchk
  have h7 : List.take 7 r.cells = r.cells := rfl
  have h7o : List.take 7 o.cells = o.cells := rfl
  refine ab_seq_k fun K1 h1 => ?_
  simp
  refine h1 _ _ _ ?_
  clear h1 K1
  refine ab_seq_k fun K2 h2 => ?_
  refine ab_seq_k fun K3 h3 => ?_
  simp [h7]
  refine callK_of (FSpec.frame hchk (by simp) rfl) ?_
  simp
  refine h3 _ _ _ ?_
  clear h3 K3
  have hE2 : openE t b [r, o] = if openE t b [r] ≠ 0 then openE t b [r] else o.check := by
    rw [← openE_one]
    unfold openE Ru.check
    by_cases h1 : checkStem t b = 0 <;> by_cases h2 : r.ok = true <;> by_cases h3 : o.ok = true <;> simp [h1, h2, h3]
  refine ab_cond_of rfl (fun hc => ?_) (fun hc => ?_)
  · simp at hc
    refine ab_seq_k fun K4 h4 => ?_
    simp [h7]
    refine callK_of (FSpec.frame hchk (by simp) rfl) ?_
    simp
    refine h4 _ _ _ ?_
    simp
    exact fin_of 3 (by simp [rs39, btwR, rangeV, hE2, hc])
  · simp at hc
    simp
    refine h2 _ _ _ ?_
    clear h2 K2
    refine ab_seq_k fun K5 h5 => ?_
    refine ab_seq_k fun K6 h6 => ?_
    simp [h7o]
    refine callK_of (FSpec.frame (refRule (r := o)) (by simp) rfl) ?_
    simp
    refine h6 _ _ _ ?_
    clear h6 K6
    refine ab_cond_of rfl (fun hc2 => ?_) (fun hc2 => ?_)
    · simp at hc2
      refine ab_seq_k fun K7 h7' => ?_
      simp [h7o]
      refine callK_of (FSpec.frame (refRule (r := o)) (by simp) rfl) ?_
      simp
      refine h7' _ _ _ ?_
      simp
      exact fin_of 3 (by simp [rs39, btwR, rangeV, hE2, hc, hc2])
    simp at hc2
    have hE0 : openE t b [r, o] = 0 := by rw [hE2, hc, hc2]; simp
    obtain ⟨ok1, ok2, -⟩ := open_two (ft := ft) (fb := fb) hsz hE0
    simp
    refine h5 _ _ _ ?_
    clear h5 K5
    have n2 := ok1.n2
    have n61 := ok1.n61
    have hrest := fun σ => refRestAll (ft := ft) (fb := fb) ok1 (σ := σ)
    refine ab_seq_k fun K8 h8 => ?_
    simp [h7]
    refine callK_of (FSpec.frame all_ok rfl rfl) ?_
    simp
    refine callK_of (hrest _) ?_
    simp
    refine h8 _ _ _ ?_
    clear h8 K8
    refine ab_seq_k fun K9 h9 => ?_
    simp
    refine ⟨by omega, by omega, h9 _ _ _ ?_⟩
    clear h9 K9
    rw [lsV_rep]
    obtain ⟨-, -, tv, bl, hr⟩ := ok1
    have hro := ok2.r
    have hlong : ∀ σ, FSpec Try.prog 43 [.agg [sl t ft, sl b fb]] σ (.i .i64 ((t.length : Int) - 1)) σ := fun σ =>
      FSpec.frame (refLong (ts := ints t) (n := t.length) (ft := ft) (x := sl b fb) (by omega)) (by simp) rfl
    have hscale : ∀ {x y : Nat} σ, x < y → y < t.length → FSpec Try.prog 45 [.agg [sl t ft, sl b fb], .agg r.cells, .i .i64 x, .i .i64 y] σ (.i .i64 (scN t b r x y)) σ := fun {x y} σ h1 h2 =>
      FSpec.frame (refScale (t := t) (b := b) (ft := ft) (fb := fb) (r := r) (x := x) (y := y) n61 tv bl hr (by omega) (by omega) (by omega)) (by simp) rfl
    have hscaleO : ∀ {x y : Nat} σ, x < y → y < t.length → FSpec Try.prog 45 [.agg [sl t ft, sl b fb], .agg o.cells, .i .i64 x, .i .i64 y] σ (.i .i64 (scN t b o x y)) σ := fun {x y} σ h1 h2 =>
      FSpec.frame (refScale (t := t) (b := b) (ft := ft) (fb := fb) (r := o) (x := x) (y := y) n61 tv bl hro (by omega) (by omega) (by omega)) (by simp) rfl
    refine ab_seq_k fun K10 h10 => ?_
    refine ab_seq_k fun K11 h11 => ?_
    simp
    refine callK_of (hlong _) ?_
    simp [wrap64 (x := (t.length : Int) - 1 - 1) (by omega) (by omega)]
    refine h11 _ _ _ ?_
    clear h11 K11
    have hsb := fun i j => scN_bounds (t := t) (b := b) hr tv (i := i) (j := j)
    have hsbO := fun i j => scN_bounds (t := t) (b := b) hro tv (i := i) (j := j)
    have hPr : ∀ i, i ≤ t.length - 1 → restN t b r allL i = Pr (scN t b r) (t.length - 1) i := fun i hi => rest_Pr hi
    have hrl : ∀ i, i ≤ t.length - 1 → 0 ≤ Pr (scN t b r) (t.length - 1) i ∧ Pr (scN t b r) (t.length - 1) i ≤ 12960000 := fun i hi => by rw [← hPr i hi]; exact restN_le hr tv n61 hi
    have hRg : ∀ i, i ≤ t.length - 1 → ((List.range t.length).map (restN t b r allL))[i]? = some (Pr (scN t b r) (t.length - 1) i) := fun i hi => by rw [rest_get (by omega), hPr i hi]
    have hbr : ∀ i, i < t.length - 1 → some (btw t b r o i) = bacc (Pr (scN t b r) (t.length - 1)) (scN t b r) (scN t b o) (btw t b r o) i (t.length - 1 - i) := by
      intro i hi
      have hs := bacc_some (sc := scN t b r) (sc2 := scN t b o) (bn := btw t b r o) hi
      have hrec : btw t b r o i = (bacc (Pr (scN t b r) (t.length - 1)) (scN t b r) (scN t b o) (btw t b r o) i (t.length - 1 - i)).getD (0, 0) := bval_rec hi
      cases hb : bacc (Pr (scN t b r) (t.length - 1)) (scN t b r) (scN t b o) (btw t b r o) i (t.length - 1 - i) with
      | none => rw [hb] at hs; cases hs
      | some p => rw [hb] at hrec; rw [hrec]; rfl
    have hbin : ∀ i, i ≤ t.length - 1 → InR 12960000 (btw t b r o i) := by
      intro i hi
      refine in_mono (bval_in hsbO rfl hi) ?_
      unfold capB
      omega
    have hbl : btw t b r o (t.length - 1) = (0, 0) := bval_last
    have hres : btwR t b r o = .tup [rangeV (btw t b r o 0), .i .i64 0] := by simp [btwR, hE0]
    rw [hres]
    generalize hRd : (List.range t.length).map (restN t b r allL) = R at *
    generalize hsd : scN t b r = sc at *
    generalize hsdo : scN t b o = so at *
    generalize hbd : btw t b r o = bn at *
    have h0 : List.replicate t.length ((0, 0) : Int × Int) = outB t.length bn (t.length - 1) := by
      apply List.ext_getElem?
      intro i
      by_cases hi : i < t.length
      · rw [outB_get hi, List.getElem?_replicate, if_pos hi]
        split
        · rw [show i = t.length - 1 by omega, hbl]
        · rfl
      · rw [List.getElem?_eq_none (by simp; omega), List.getElem?_eq_none (by simp; omega)]
    rw [h0]
    refine ab_block_k fun K12 h12 => ?_
    refine ab_loop_k (fun m env σ => m ≤ t.length - 1 ∧ env = [(3, .p 0 0 0), (4, .p 1 0 0), (5, .p 2 0 0), (6, .p 3 0 0), (8, .ss (ints R) t.length false), (9, .s 4 0 0 t.length 2), (10, .i .i64 ((m : Int) - 1))] ∧ HpX σ t b ft fb r o (outB t.length bn m)) (t.length - 1)
      ⟨Nat.le_refl _, by simp; omega, by constructor <;> simp⟩ ?_
    rintro m env σ ⟨hm, rfl, hp⟩ K13 h13
    rw [ic39_1]
    have hp4 := hp.h4
    refine ab_seq_k fun K14 h14 => ?_
    refine ab_seq_k fun K15 h15 => ?_
    simp
    refine h15 _ _ _ ?_
    clear h15 K15
    refine ab_cond_of rfl (fun hc3 => ?_) (fun hc3 => ?_)
    · obtain ⟨a, rfl⟩ : ∃ a, m = a + 1 := ⟨m - 1, by simp at hc3; omega⟩
      have e1 : ((a + 1 : Nat) : Int) - 1 = a := by omega
      rw [e1]
      have g1 := hRg a (by omega)
      have g2 := hRg (a + 1) (by omega)
      obtain ⟨f1, k1⟩ := List.getElem?_eq_some_iff.1 g1
      obtain ⟨f2, k2⟩ := List.getElem?_eq_some_iff.1 g2
      have e2 : ((a : Int) + 1).toNat = a + 1 := by omega
      have e3 : (a : Int) + 1 < t.length := by omega
      have e4 : (0 : Int) ≤ (a : Int) + 1 := by omega
      have e5 : (a : Int) < t.length := by omega
      have e6 : a < t.length := by omega
      have hOl : (outB t.length bn (a + 1)).length = t.length := by simp
      have hOg : ∀ i, a < i → i < t.length → (outB t.length bn (a + 1))[i]? = some (bn i) := by
        intro i h1 h2
        rw [outB_get h2, if_pos (by omega)]
      have hOs : (outB t.length bn (a + 1)).set a (bn a) = outB t.length bn a := outB_set e6
      generalize outB t.length bn (a + 1) = Q at *
      simp
      refine h14 _ _ _ ?_
      clear h14 K14
      refine ab_seq_k fun K16 h16 => ?_
      refine ab_block_k fun K17 h17 => ?_
      refine ab_seq_k fun K18 h18 => ?_
      simp [e2, e3, e4, e5, e6, g1, g2, k1, k2, wrap64 (x := (a : Int) + 1) (by omega) (by omega)]
      refine h18 _ _ _ ?_
      clear h18 K18
      obtain ⟨x1, x2, x3⟩ := lsV_get (hOg (a + 1) (by omega) (by omega))
      refine ab_seq_k fun K19 h19 => ?_
      have l1 : (a + 1) * 2 + 2 ≤ t.length * 2 := by omega
      have l2 : a * 2 + 2 ≤ t.length * 2 := by omega
      have hput : ∀ (Q : List (Int × Int)) (p : Int × Int), Q.length = t.length → List.take (a * 2) (lsV Q) ++ V.i IntKind.i64 p.1 :: V.i IntKind.i64 p.2 :: List.drop (a * 2 + 2) (lsV Q) = lsV (Q.set a p) := by
        intro Q p hl
        have := lsV_put (l := Q) (i := a) (x := p.1) (y := p.2) (by omega)
        rw [← this, splice, List.append_assoc]
        rfl
      have hm2 : min 2 (t.length * 2 - (a + 1) * 2) = 2 := by omega
      simp [hp4, e2, e3, e4, e5, e6, hOl, l1, l2, x1, hm2, wrap64 (x := (a : Int) + 1) (by omega) (by omega)]
      refine h19 _ _ _ ?_
      clear h19 K19
      rw [hput Q _ hOl]
      refine ab_seq_k fun K20 h20 => ?_
      simp [wrap64 (x := (a : Int) + 1) (by omega) (by omega)]
      refine h20 _ _ _ ?_
      clear h20 K20
      generalize hLd : t.length - 1 = L at *
      have hs0 : (bacc (Pr sc L) sc so bn a 0).isSome = decide (Pr sc L a = Pr sc L (a + 1)) := by rw [bacc]; split <;> simp_all
      have hs1 : (bacc (Pr sc L) sc so bn a 0).getD (bn (a + 1)) = bn (a + 1) := by rw [bacc]; split <;> rfl
      refine ab_block_k fun K21 h21 => ?_
      refine ab_loop_k (fun m env σ => ∃ (j : Nat), j + m = L - a ∧ env = [(3, .p 0 0 0), (4, .p 1 0 0), (5, .p 2 0 0), (6, .p 3 0 0), (8, .ss (ints R) t.length false), (9, .s 4 0 0 t.length 2), (10, .i .i64 a), (11, .b (bacc (Pr sc L) sc so bn a j).isSome), (12, .i .i64 ((a : Int) + 1 + j))] ∧
          HpX σ t b ft fb r o (Q.set a ((bacc (Pr sc L) sc so bn a j).getD (bn (a + 1))))) (L - a) ⟨0, by omega, ?_, ?_⟩ ?_
      · simp [hs0]
      · rw [hs1]; exact hp.setQ _
      rintro m2 env σ2 ⟨j, hj, rfl, hp2⟩ K22 h22
      rw [ic39_0]
      have p0 := hp2.h0
      have p1 := hp2.h1
      have p2 := hp2.h2
      have p4 := hp2.h4
      have lr : r.cells.length = 7 := rfl
      have lo : o.cells.length = 7 := rfl
      refine ab_seq_k fun K23 h23 => ?_
      refine ab_seq_k fun K24 h24 => ?_
      simp [p0]
      refine callK_of (hlong _) ?_
      simp
      refine h24 _ _ _ ?_
      clear h24 K24
      refine ab_cond_of rfl (fun hc4 => ?_) (fun hc4 => ?_)
      · have hjl : a + 1 + j ≤ L := by simp at hc4; omega
        simp
        refine h23 _ _ _ ?_
        clear h23 K23
        have hsc := fun σ => hscale (x := a) (y := a + 1 + j) σ (by omega) (by omega)
        have hso := fun σ => hscaleO (x := a) (y := a + 1 + j) σ (by omega) (by omega)
        have ec : ((a + 1 + j : Nat) : Int) = (a : Int) + 1 + j := by omega
        rw [ec] at hsc hso
        have en : ((a : Int) + 1 + j).toNat = a + 1 + j := by omega
        have eu : (a : Int) + 1 + j < t.length := by omega
        have ev : (0 : Int) ≤ (a : Int) + 1 + j := by omega
        have ew : a + 1 + j < t.length := by omega
        have g3 := hRg (a + 1 + j) (by omega)
        obtain ⟨f3, k3⟩ := List.getElem?_eq_some_iff.1 g3
        have hb1 := hsb a (a + 1 + j)
        have hb2 := hsbO a (a + 1 + j)
        have hr1 := hrl (a + 1 + j) (by omega)
        obtain ⟨⟨b1, b2⟩, b3, b4⟩ := hbin (a + 1 + j) (by omega)
        have hm3 : min 2 (t.length * 2 - a * 2) = 2 := by omega
        have l3 : (a + 1 + j) * 2 < t.length * 2 := by omega
        have l4 : (a + 1 + j) * 2 + 1 < t.length * 2 := by omega
        refine ab_seq_k fun K25 h25 => ?_
        refine ab_block_k fun K26 h26 => ?_
        have hend : ∀ env σ3, get env 3 = .p 0 0 0 → get env 4 = .p 1 0 0 → get env 5 = .p 2 0 0 → get env 6 = .p 3 0 0 → get env 8 = .ss (ints R) t.length false → get env 9 = .s 4 0 0 t.length 2 → get env 10 = .i .i64 a → get env 11 = .b (bacc (Pr sc L) sc so bn a (j + 1)).isSome → get env 12 = .i .i64 ((a : Int) + 1 + j) →
            HpX σ3 t b ft fb r o (Q.set a ((bacc (Pr sc L) sc so bn a (j + 1)).getD (bn (a + 1)))) → K26 (some 0) env σ3 := by
          intro env σ3 w3 w4 w5 w6 w8 w9 w10 w11 w12 hw
          refine h26 _ _ _ ?_
          refine h25 _ _ _ ?_
          simp [w3, w4, w5, w6, w8, w9, w10, w11, w12, wrap64 (x := (a : Int) + 1 + j + 1) (by omega) (by omega)]
          exact h22 _ _ _ (again (m2 - 1) (by omega) ⟨j + 1, by omega, by simp; omega, hw⟩)
        clear h25 h26
        refine ab_seq_k fun K27 h27 => ?_
        simp [p0, p1, lr]
        refine callK_of (hsc _) ?_
        simp
        refine h27 _ _ _ ?_
        clear h27 K27
        refine ab_seq_k fun K28 h28 => ?_
        refine ab_seq_k fun K29 h29 => ?_
        have hskip : ¬ (0 < sc a (a + 1 + j) ∧ Pr sc L a = sc a (a + 1 + j) + Pr sc L (a + 1 + j)) → bacc (Pr sc L) sc so bn a (j + 1) = bacc (Pr sc L) sc so bn a j := fun h => by rw [bacc, if_neg h]
        by_cases hn0 : sc a (a + 1 + j) = 0
        · simp [hn0]
          refine h29 _ _ _ ?_
          refine ab_cond_of rfl (fun hc5 => ?_) (fun hc5 => ?_)
          · simp
            refine hend _ _ rfl rfl rfl rfl rfl rfl rfl ?_ rfl ?_
            · rw [hskip (by omega)]; rfl
            · rw [hskip (by omega)]; exact hp2
          · simp at hc5
        simp [hn0, e5, eu, ev, en, ew, g1, g3, k1, k3, wrap64 (x := sc a (a + 1 + j) + Pr sc L (a + 1 + j)) (by omega) (by omega)]
        refine h29 _ _ _ ?_
        clear h29 K29
        refine ab_cond_of rfl (fun hc5 => ?_) (fun hc5 => ?_)
        · have hne : ¬ Pr sc L a = sc a (a + 1 + j) + Pr sc L (a + 1 + j) := by simpa using hc5
          simp
          refine hend _ _ rfl rfl rfl rfl rfl rfl rfl ?_ rfl ?_
          · rw [hskip (by omega)]; rfl
          · rw [hskip (by omega)]; exact hp2
        have heq : Pr sc L a = sc a (a + 1 + j) + Pr sc L (a + 1 + j) := by simpa using hc5
        have htake : bacc (Pr sc L) sc so bn a (j + 1) = joinR (bacc (Pr sc L) sc so bn a j) (shift (so a (a + 1 + j)) (bn (a + 1 + j))) := by rw [bacc, if_pos ⟨by omega, heq⟩]
        rw [htake] at hend
        simp
        refine h28 _ _ _ ?_
        clear h28 K28
        refine ab_seq_k fun K30 h30 => ?_
        simp [p0, p2, lo]
        refine callK_of (hso _) ?_
        simp
        refine h30 _ _ _ ?_
        clear h30 K30
        generalize hod : bacc (Pr sc L) sc so bn a j = oo at *
        have hQl : (Q.set a (oo.getD (bn (a + 1)))).length = t.length := by simp [hOl]
        have hQt : (Q.set a (oo.getD (bn (a + 1))))[a + 1 + j]? = some (bn (a + 1 + j)) := by
          rw [List.getElem?_set_ne (by omega)]; exact hOg _ (by omega) (by omega)
        have hQa : (Q.set a (oo.getD (bn (a + 1))))[a]? = some (oo.getD (bn (a + 1))) := List.getElem?_set_self (by omega)
        have hQs : ∀ x, (Q.set a (oo.getD (bn (a + 1)))).set a x = Q.set a x := fun x => by rw [List.set_set]
        generalize Q.set a (oo.getD (bn (a + 1))) = Q2 at *
        obtain ⟨y1, y2, y3⟩ := lsV_get hQt
        obtain ⟨z1, z2, z3⟩ := lsV_get hQa
        obtain ⟨hy2, y2'⟩ := List.getElem?_eq_some_iff.1 y2
        obtain ⟨hy3, y3'⟩ := List.getElem?_eq_some_iff.1 y3
        obtain ⟨hz2, z2'⟩ := List.getElem?_eq_some_iff.1 z2
        obtain ⟨hz3, z3'⟩ := List.getElem?_eq_some_iff.1 z3
        refine ab_seq_k fun K31 h31 => ?_
        have P4 := app_get (g := [O.row 0 [V.i IntKind.i64 0, V.i IntKind.i64 0]]) p4
        have mm : min 2 (t.length * 2 - a * 2) = 2 := by omega
        simp [abDs_consU, drU, recheck_cons, recheck_nil, rcK, IS.dst, p4, P4, eu, ev, ew, en, hQl, y2, y3, y2', y3', wrap64 (x := so a (a + 1 + j) + (bn (a + 1 + j)).1) (by omega) (by omega), wrap64 (x := so a (a + 1 + j) + (bn (a + 1 + j)).2) (by omega) (by omega)]
        refine h31 _ _ _ ?_
        clear h31 K31
        have hpa := hp2.app (g := [O.row 0 [V.i IntKind.i64 (so a (a + 1 + j) + (bn (a + 1 + j)).1), V.i IntKind.i64 (so a (a + 1 + j) + (bn (a + 1 + j)).2)]])
        have hil : (σ2 ++ [O.row 0 [V.i IntKind.i64 (so a (a + 1 + j) + (bn (a + 1 + j)).1), V.i IntKind.i64 (so a (a + 1 + j) + (bn (a + 1 + j)).2)]])[σ2.length]? = some (.row 0 [V.i IntKind.i64 (so a (a + 1 + j) + (bn (a + 1 + j)).1), V.i IntKind.i64 (so a (a + 1 + j) + (bn (a + 1 + j)).2)]) := by simp
        have hi5 := hp2.len
        generalize (σ2 ++ [O.row 0 [V.i IntKind.i64 (so a (a + 1 + j) + (bn (a + 1 + j)).1), V.i IntKind.i64 (so a (a + 1 + j) + (bn (a + 1 + j)).2)]]) = T at *
        generalize σ2.length = il at *
        have hsh : shift (so a (a + 1 + j)) (bn (a + 1 + j)) = (so a (a + 1 + j) + (bn (a + 1 + j)).1, so a (a + 1 + j) + (bn (a + 1 + j)).2) := rfl
        rw [hsh] at hend
        generalize so a (a + 1 + j) + (bn (a + 1 + j)).1 = w1 at *
        generalize so a (a + 1 + j) + (bn (a + 1 + j)).2 = w2 at *
        refine ab_seq_k fun K32 h32 => ?_
        refine ab_seq_k fun K33 h33 => ?_
        have c1 : ∀ env σ3 Q3 c, get env 3 = .p 0 0 0 → get env 4 = .p 1 0 0 → get env 5 = .p 2 0 0 → get env 6 = .p 3 0 0 → get env 8 = .ss (ints R) t.length false → get env 9 = .s 4 0 0 t.length 2 → get env 10 = .i .i64 a → get env 11 = .b true → get env 12 = .i .i64 ((a : Int) + 1 + j) → get env 15 = .p il 0 0 →
            HpX σ3 t b ft fb r o Q3 → σ3[il]? = some (.row 0 [.i .i64 w1, .i .i64 w2]) → Q3.length = t.length → Q3[a]? = some c → (∀ x, Q3.set a x = Q.set a x) → some (meet c (w1, w2)) = joinR oo (w1, w2) → K32 (some 0) env σ3 := by
          intro env σ3 Q3 c w3 w4 w5 w6 w8 w9 w10 w11 w12 w15 hq hqi hQ3 hQ3a hQ3s hm
          have q4 := hq.h4
          obtain ⟨v1, v2, v3⟩ := lsV_get hQ3a
          obtain ⟨hv2, v2'⟩ := List.getElem?_eq_some_iff.1 v2
          obtain ⟨hv3, v3'⟩ := List.getElem?_eq_some_iff.1 v3
          refine h32 _ _ _ ?_
          simp [w3, w4, w5, w6, w8, w9, w10, w11, w12, w15, q4, hqi, e5, e6, v2, v3, v2', v3', hQ3, l2, mm]
          rw [hput Q3 (min c.1 w1, max c.2 w2) hQ3]
          refine hend _ _ rfl rfl rfl rfl rfl rfl rfl ?_ rfl ?_
          · rw [← hm]; rfl
          · rw [← hm, Option.getD_some, ← hQ3s]
            exact hq.setQ _
        clear h32
        simp
        refine h33 _ _ _ ?_
        clear h33 K33
        have q4 := hpa.h4
        cases oo with
        | none =>
          refine ab_cond_of rfl (fun hc6 => ?_) (fun hc6 => ?_)
          · simp [q4, hil, e5, e6, hQl, l2, mm]
            rw [hput Q2 (w1, w2) hQl]
            refine c1 _ _ (Q2.set a (w1, w2)) (w1, w2) rfl rfl rfl rfl rfl rfl rfl rfl rfl rfl (hpa.setQ _) ?_ (by simp [hQl]) (List.getElem?_set_self (by omega)) (fun x => by rw [List.set_set, hQs]) ?_
            · rw [List.getElem?_set_ne (by omega)]; exact hil
            · rw [meet_self]; rfl
          · simp at hc6
        | some c =>
          refine ab_cond_of rfl (fun hc6 => ?_) (fun hc6 => ?_)
          · simp at hc6
          · simp
            exact c1 _ _ Q2 c rfl rfl rfl rfl rfl rfl rfl rfl rfl rfl hpa hil hQl hQa hQs rfl
      · have hjl : j = L - a := by simp at hc4; omega
        subst hjl
        rw [← hbr a (by omega)] at hp2
        simp only [Option.getD_some, hOs] at hp2
        simp
        refine h21 _ _ _ ?_
        refine h17 _ _ _ ?_
        refine h16 _ _ _ ?_
        simp [wrap64 (x := (a : Int) - 1) (by omega) (by omega)]
        exact h13 _ _ _ (again a (by omega) ⟨by omega, by simp, hp2⟩)
    · have hm0 : m = 0 := by simp at hc3; omega
      subst hm0
      simp
      refine h12 _ _ _ ?_
      refine h10 _ _ _ ?_
      have hg0 : (outB t.length bn 0)[0]? = some (bn 0) := by rw [outB_get (by omega), if_pos (Nat.le_refl _)]
      have hol : (outB t.length bn 0).length = t.length := by simp
      generalize outB t.length bn 0 = O0 at *
      obtain ⟨x1, x2, x3⟩ := lsV_get hg0
      have n0 : 0 < t.length := by omega
      have hle : 2 ≤ t.length * 2 := by omega
      have hp3 := hp.h3
      have hl3 := (List.getElem?_eq_some_iff.1 hp3).1
      refine ab_seq_k fun K16 h16 => ?_
      have ht2 : List.take 2 (lsV O0) = [.i .i64 (bn 0).1, .i .i64 (bn 0).2] := by simpa using x1
      simp [hp3, hp4, hol, n0, hle, ht2]
      refine h16 _ _ _ ?_
      simp
      have w1 : (σ.set 3 (O.row 0 [V.i IntKind.i64 (bn 0).1, V.i IntKind.i64 (bn 0).2]))[3]? = some (.row 0 [V.i IntKind.i64 (bn 0).1, V.i IntKind.i64 (bn 0).2]) := List.getElem?_set_self hl3
      exact fin_of 3 (by simp [rs39, rangeV, hres, w1])
end Go.Ab
