/- The reference's waves: how many of those that hold a log are gone; WavesOf. -/
import Derived.Test.YtgndegccjhdmmaaGreatJS
import Derived.Test.YtgndegccjhdmmaaGreatJN
import Derived.Test.YtgndegccjhdmmaaGreatJK
set_option linter.unusedVariables false
set_option linter.unusedSimpArgs false
set_option maxHeartbeats 4000000
set_option maxRecDepth 100000
namespace Go.Ab
open Go Go.Proofs

def cntW (w l : List Int) : Nat := l.countP fun x => decide (0 ≤ w.getD x.toNat 0)
theorem cntW_le {w l : List Int} : cntW w l ≤ l.length := List.countP_le_length
theorem cntW_snoc {w l : List Int} {i : Nat} {x : Int} (h : l[i]? = some x) : cntW w (l.take (i + 1)) = cntW w (l.take i) + if 0 ≤ w.getD x.toNat 0 then 1 else 0 := by
  unfold cntW
  rw [List.take_add_one, h, List.countP_append]
  simp [List.countP_cons]
theorem many98 {l w : List Int} {f fw : Bool} {σ : List O} (h : ∀ x ∈ l, 0 ≤ x ∧ x < w.length) (hl : l.length ≤ 1000000) : FSpec Tryz.prog 98 [sl l f, sl w fw] σ (.i .i64 (cntW w l)) σ := by
  refine FSpec.frame (σ := σ) ?_ (by simp) rfl
  refine fn98.spec0 mixed noIt_ok ?_
  rw [ic98]
  refine ab_seq_k fun K1 h1 => ?_
  simp
  refine h1 _ _ _ ?_
  clear h1 K1
  refine ab_seq_k fun K2 h2 => ?_
  simp
  refine h2 _ _ _ ?_
  clear h2 K2
  refine ab_seq_k fun K3 h3 => ?_
  refine ab_seq_k fun K4 h4 => ?_
  simp
  refine h4 _ _ _ ?_
  clear h4 K4
  refine ab_block_k fun K5 h5 => ?_
  refine ab_loop_k (fun m env σ => ∃ i : Nat, i + m = l.length ∧ env = [(0, sl l f), (1, sl w fw), (5, .i .i64 (cntW w (l.take i))), (6, .i .i64 i)] ∧ σ = []) l.length ⟨0, by omega, by simp [cntW], rfl⟩ ?_
  rintro m env σ ⟨i, hi, rfl, rfl⟩ K6 h6
  rw [ic98_0]
  refine ab_seq_k fun K7 h7 => ?_
  refine ab_seq_k fun K8 h8 => ?_
  simp
  refine h8 _ _ _ ?_
  clear h8 K8
  refine ab_cond_of rfl (fun hc => ?_) (fun hc => ?_)
  · have hil : i < l.length := by simpa using hc
    obtain ⟨e1, e2, hm⟩ := getD_get hil
    have hs := cntW_snoc (w := w) e1
    have hcl := cntW_le (w := w) (l := l.take i)
    rw [List.length_take] at hcl
    obtain ⟨x0, x1⟩ := h _ hm
    generalize l.getD i 0 = x at *
    obtain ⟨xn, rfl⟩ : ∃ xn : Nat, x = xn := ⟨x.toNat, by omega⟩
    rw [Int.toNat_natCast] at hs
    have hxn : xn < w.length := by omega
    obtain ⟨y1, y2, -⟩ := getD_get hxn
    generalize w.getD xn 0 = y at *
    simp
    refine h7 _ _ _ ?_
    clear h7 K7
    refine ab_seq_k fun K9 h9 => ?_
    refine ab_block_k fun K10 h10 => ?_
    refine ab_seq_k fun K11 h11 => ?_
    simp [hil, e2, hxn, y2]
    refine h11 _ _ _ ?_
    clear h11 K11
    by_cases hy : 0 ≤ y
    · rw [if_pos hy] at hs
      refine ab_cond_of rfl (fun _ => ?_) (fun h => by simp [hy] at h)
      simp [wrap64 (x := (cntW w (l.take i) : Int) + 1) (by omega) (by omega)]
      refine h10 _ _ _ (h9 _ _ _ ?_)
      simp [wrap64 (x := (i : Int) + 1) (by omega) (by omega)]
      exact h6 _ _ _ (again (m - 1) (by omega) ⟨i + 1, by omega, by simp [hs], rfl⟩)
    · rw [if_neg hy, Nat.add_zero] at hs
      refine ab_cond_of rfl (fun h => by simp at h; omega) (fun _ => ?_)
      simp
      refine h10 _ _ _ (h9 _ _ _ ?_)
      simp [wrap64 (x := (i : Int) + 1) (by omega) (by omega)]
      exact h6 _ _ _ (again (m - 1) (by omega) ⟨i + 1, by omega, by simp [hs], rfl⟩)
  · have hil : l.length ≤ i := by simp at hc; omega
    rw [List.take_of_length_le hil]
    simp
    refine h5 _ _ _ (h3 _ _ _ ?_)
    refine ab_seq_k fun K12 h12 => ?_
    simp
    refine h12 _ _ _ ?_
    clear h12 K12
    simp
    exact fin_of 1 (by simp [rs98])

/-- A log goes by how many of those that hold it are gone. -/
theorem cnt_fr {J : List Lg} {s r i : Nat} {p : Lg} (hp : J[i]? = some p) (hL : isL J.length p.2.1 = true) (hk : p.1 = 0 ∨ p.1 = 1) :
    ((p.1 = 0 ∧ cntW (rowF J.length (wr J (byB J) s r)) p.2.1 = p.2.1.length) ∨ (p.1 = 1 ∧ 0 < cntW (rowF J.length (wr J (byB J) s r)) p.2.1)) ↔ frB J (byB J) i (gk J (byB J) s r) = true := by
  have hm := isLF_mem hL
  have hg : J.getD i (0, [], true) = p := by rw [List.getD_eq_getElem?_getD, hp]; rfl
  have hB : (byB J).getD i 0 = setB p.2.1 := by
    unfold byB
    rw [List.getD_eq_getElem?_getD, List.getElem?_map, hp]; rfl
  have hbit := fun j => setB_bit (l := p.2.1) (fun x hx => (hm x hx).1) (j := j)
  have hw : ∀ x ∈ p.2.1, (0 ≤ (rowF J.length (wr J (byB J) s r)).getD x.toNat 0 ↔ (gk J (byB J) s r).testBit x.toNat = true) := by
    intro x hx
    have hxl : x.toNat < J.length := by have := hm x hx; omega
    rw [List.getD_eq_getElem?_getD, rowF_get hxl]
    have := wr_neg (J := J) (B := byB J) (keys := s) (j := x.toNat) (r := r)
    show 0 ≤ wr J (byB J) s r x.toNat ↔ _
    cases hgx : (gk J (byB J) s r).testBit x.toNat with
    | true => 
      rw [hgx] at this
      simp at this
      simp [this]
    | false =>
      have := this.2 ⟨hxl, hgx⟩
      simp
      omega
  unfold frB
  rw [hB]
  have hkd : kd J i = p.1 := by unfold kd; rw [hg]
  rw [hkd]
  have hcast : ∀ x ∈ p.2.1, ((x.toNat : Nat) : Int) = x := fun x hx => by have := hm x hx; omega
  rcases hk with h0 | h1
  · rw [if_pos h0, decide_eq_true_eq, less_zero]
    have : (p.1 = 0 ∧ cntW (rowF J.length (wr J (byB J) s r)) p.2.1 = p.2.1.length ∨ p.1 = 1 ∧ 0 < cntW (rowF J.length (wr J (byB J) s r)) p.2.1) ↔ cntW (rowF J.length (wr J (byB J) s r)) p.2.1 = p.2.1.length := by
      rw [h0]; simp
    rw [this]
    unfold cntW
    rw [List.countP_eq_length]
    constructor
    · intro h j hj
      have hj' := (hbit j).1 hj
      have := (hw _ hj').1 (of_decide_eq_true (h _ hj'))
      rwa [Int.toNat_natCast] at this
    · intro h x hx
      exact decide_eq_true ((hw x hx).2 (h _ ((hbit _).2 (by rw [hcast x hx]; exact hx))))
  · have h0 : ¬ p.1 = 0 := by omega
    rw [if_neg h0, decide_eq_true_eq, and_ne]
    have : (p.1 = 0 ∧ cntW (rowF J.length (wr J (byB J) s r)) p.2.1 = p.2.1.length ∨ p.1 = 1 ∧ 0 < cntW (rowF J.length (wr J (byB J) s r)) p.2.1) ↔ 0 < cntW (rowF J.length (wr J (byB J) s r)) p.2.1 := by
      rw [h1]; simp
    rw [this]
    unfold cntW
    rw [List.countP_pos_iff]
    constructor
    · rintro ⟨x, hx, h⟩
      exact ⟨x.toNat, (hbit _).2 (by rw [hcast x hx]; exact hx), (hw x hx).1 (of_decide_eq_true h)⟩
    · rintro ⟨j, h1, h2⟩
      have hj' := (hbit j).1 h1
      exact ⟨_, hj', decide_eq_true ((hw _ hj').2 (by rw [Int.toNat_natCast]; exact h2))⟩

theorem rowF_succ {n : Nat} {f : Nat → Int} : rowF (n + 1) f = rowF n f ++ [f n] := by simp [rowF, List.range_succ]
def midN (J : List Lg) (keys r i : Nat) : Nat → Int := fun j => if j < i then wr J (byB J) keys (r + 1) j else wr J (byB J) keys r j
theorem midN_set {J : List Lg} {keys r i : Nat} : rowF J.length (upd (midN J keys r i) i (wr J (byB J) keys (r + 1) i)) = rowF J.length (midN J keys r (i + 1)) := by
  refine rowF_congr fun j _ => ?_
  unfold upd midN
  by_cases h : j = i
  · subst h; simp
  · rw [if_neg h]
    by_cases h2 : j < i
    · rw [if_pos h2, if_pos (by omega)]
    · rw [if_neg h2, if_neg (by omega)]
theorem midN_same {J : List Lg} {keys r i : Nat} (h : wr J (byB J) keys (r + 1) i = wr J (byB J) keys r i) : rowF J.length (midN J keys r i) = rowF J.length (midN J keys r (i + 1)) := by
  refine rowF_congr fun j _ => ?_
  unfold midN
  by_cases h2 : j < i
  · rw [if_pos h2, if_pos (by omega)]
  · rw [if_neg h2]
    by_cases h3 : j = i
    · subst h3; simp [h]
    · rw [if_neg (by omega)]

theorem wavesOf66 {J : List Lg} {f fk : Bool} {k : List Int} {σ : List O} (hJ : JOK J) (hc : ∀ p ∈ J, isL J.length p.2.1 = true ∧ (p.1 = 0 ∨ p.1 = 1)) (hk : ∀ x ∈ k, 0 ≤ x) (hkl : (k.length : Int) < 1000000000) :
    FSpec Tryz.prog 66 [jamV J f, sl k fk] σ (sl (wavL J (setB k)) false) σ := by
  refine FSpec.frame (σ := σ) ?_ (by simp) (by simp)
  have hN := hJ.2.1
  have hN1 := hJ.1
  generalize hs : setB k = s
  have hhas : ∀ i : Nat, decide ((i : Int) ∈ k) = s.testBit i := fun i => by
    rw [Bool.eq_iff_iff, decide_eq_true_eq, ← hs, setB_bit hk]
  refine fn66.spec0 mixed noIt_ok ?_
  rw [ic66]
  refine ab_seq_k fun K1 h1 => ?_
  simp
  refine h1 _ _ _ ?_
  clear h1 K1
  refine ab_seq_k fun K2 h2 => ?_
  simp
  refine h2 _ _ _ ?_
  clear h2 K2
  refine ab_seq_k fun K3 h3 => ?_
  refine ab_seq_k fun K4 h4 => ?_
  simp
  refine h4 _ _ _ ?_
  clear h4 K4
  refine ab_block_k fun K5 h5 => ?_
  refine ab_loop_k (fun m env σ => ∃ (i : Nat) (v : V), i + m = J.length ∧ env = [(1, sl k fk), (2, .p 0 0 0), (5, v), (6, .i .i64 i)] ∧ σ[0]? = some (.row 0 [slJ J f]) ∧ Gr 1 1 σ v i (ints (rowF i (wr J (byB J) s 0)))) J.length ⟨0, .ss [] 0 true, by omega, by simp, rfl, by simpa [rowF, ints] using Gr.nil⟩ ?_
  rintro m env σ ⟨i, v, hi, rfl, s0, hv⟩ K6 h6
  obtain ⟨hs0, s0'⟩ := List.getElem?_eq_some_iff.1 s0
  rw [ic66_0]
  refine ab_seq_k fun K7 h7 => ?_
  refine ab_seq_k fun K8 h8 => ?_
  simp [s0, s0']
  refine h8 _ _ _ ?_
  clear h8 K8
  refine ab_cond_of rfl (fun hc1 => ?_) (fun hc1 => ?_)
  · have hil : i < J.length := by simpa using hc1
    simp
    refine h7 _ _ _ ?_
    clear h7 K7
    refine ab_seq_k fun K9 h9 => ?_
    refine ab_block_k fun K10 h10 => ?_
    have hend : ∀ env σ v, get env 1 = sl k fk → get env 2 = .p 0 0 0 → get env 5 = v → get env 6 = .i .i64 i → σ[0]? = some (.row 0 [slJ J f]) → Gr 1 1 σ v (i + 1) (ints (rowF (i + 1) (wr J (byB J) s 0))) → K10 (some 0) env σ := by
      intro env σ v w1 w2 w5 w6 a0 hg
      refine h10 _ _ _ (h9 _ _ _ ?_)
      simp [w1, w2, w5, w6, wrap64 (x := (i : Int) + 1) (by omega) (by omega)]
      exact h6 _ _ _ (again (m - 1) (by omega) ⟨i + 1, v, by omega, by simp, a0, hg⟩)
    clear h9 h10 h6
    refine ab_seq_k fun K11 h11 => ?_
    simp
    refine callK_of (has53 hkl) ?_
    rw [hhas]
    simp
    refine h11 _ _ _ ?_
    clear h11 K11
    have hbid : idOf v ≠ some 0 := fun e => by have := (hv.id_ge e).1; omega
    cases hb : s.testBit i with
    | true =>
      have hw : wr J (byB J) s 0 i = 0 := by simp [wr, hb]
      refine ab_cond_of rfl (fun _ => ?_) (fun h => by cases h)
      simp
      refine appG hv (by omega) (by omega) (by omega) rfl ?_
      intro v' σ' hv' hgr
      simp
      exact hend _ _ _ rfl rfl rfl rfl (hgr.get hbid s0) (by rw [rowF_succ, hw]; simpa [ints] using hv')
    | false =>
      have hw : wr J (byB J) s 0 i = -1 := by simp [wr, hb, hil]
      refine ab_cond_of rfl (fun h => by cases h) (fun _ => ?_)
      simp
      refine appG hv (by omega) (by omega) (by omega) rfl ?_
      intro v' σ' hv' hgr
      simp
      exact hend _ _ _ rfl rfl rfl rfl (hgr.get hbid s0) (by rw [rowF_succ, hw]; simpa [ints] using hv')
  · have hil : i = J.length := by simp at hc1; omega
    subst hil
    simp
    refine h5 _ _ _ (h3 _ _ _ ?_)
    clear h3 h5 h6 h7 K3 K5 K6 K7
    refine ab_seq_k fun K20 h20 => ?_
    refine ab_seq_k fun K21 h21 => ?_
    simp
    refine h21 _ _ _ ?_
    clear h21 K21
    refine ab_block_k fun K22 h22 => ?_
    refine ab_loop_k (fun m env σ => ∃ (r : Nat) (v : V), r + m = J.length ∧ env = [(2, .p 0 0 0), (5, v), (7, .i .i64 ((r : Int) + 1))] ∧ σ[0]? = some (.row 0 [slJ J f]) ∧ Gr 1 1 σ v J.length (ints (rowF J.length (wr J (byB J) s r)))) J.length ⟨0, v, by omega, by simp, s0, hv⟩ ?_
    clear s0' s0 hs0 hv v σ
    rintro m env σ ⟨r, v, hr, rfl, s0, hv⟩ K23 h23
    obtain ⟨hs0, s0'⟩ := List.getElem?_eq_some_iff.1 s0
    rw [ic66_2]
    refine ab_seq_k fun K24 h24 => ?_
    refine ab_seq_k fun K25 h25 => ?_
    simp [s0, s0']
    refine h25 _ _ _ ?_
    clear h25 K25
    refine ab_cond_of rfl (fun hc1 => ?_) (fun hc1 => ?_)
    · have hrl : r < J.length := by simp at hc1; omega
      rcases hv.cases with ⟨e, -, -⟩ | ⟨id, ver, -, hid, rfl, hsi, hlt⟩
      · omega
      simp
      refine h24 _ _ _ ?_
      clear h24 K24
      refine ab_seq_k fun K26 h26 => ?_
      refine ab_block_k fun K27 h27 => ?_
      refine ab_seq_k fun K28 h28 => ?_
      obtain ⟨hsi1, hsi'⟩ := List.getElem?_eq_some_iff.1 hsi
      have hne : J ≠ [] := by rintro rfl; simp at hrl
      have htk : List.take J.length (ints (rowF J.length (wr J (byB J) s r))) = ints (rowF J.length (midN J s r 0)) := by
        rw [List.take_of_length_le (by simp)]; rfl
      simp [hsi, hsi', hne, htk]
      refine ⟨by omega, h28 _ _ _ ?_⟩
      clear h28 K28
      refine ab_seq_k fun K29 h29 => ?_
      refine ab_seq_k fun K30 h30 => ?_
      simp
      refine h30 _ _ _ ?_
      clear h30 K30
      refine ab_block_k fun K31 h31 => ?_
      have t0 := app_get (g := [O.row 0 (ints (rowF J.length (midN J s r 0)))]) s0
      have t1 := app_get (g := [O.row 0 (ints (rowF J.length (midN J s r 0)))]) hsi
      have t2 : (σ ++ [O.row 0 (ints (rowF J.length (midN J s r 0)))])[σ.length]? = some (O.row 0 (ints (rowF J.length (midN J s r 0)))) := by simp
      generalize σ ++ [O.row 0 (ints (rowF J.length (midN J s r 0)))] = U at *
      clear hsi hsi' hsi1 s0 s0' hv
      generalize σ.length = L at *
      clear hs0 σ
      refine ab_loop_k (fun m2 env σ => ∃ i : Nat, i + m2 = J.length ∧ env = [(2, .p 0 0 0), (5, .s id ver 0 J.length 1), (7, .i .i64 ((r : Int) + 1)), (8, .s L 0 0 J.length 1), (9, .i .i64 i)] ∧ σ[0]? = some (.row 0 [slJ J f]) ∧ σ[id]? = some (.row ver (ints (rowF J.length (wr J (byB J) s r)))) ∧ σ[L]? = some (.row 0 (ints (rowF J.length (midN J s r i))))) J.length
        ⟨0, by omega, by simp, t0, t1, t2⟩ ?_
      clear t0 t1 t2 U
      rintro m2 env σ ⟨i, hi, rfl, t0, t1, t2⟩ K32 h32
      obtain ⟨ht0, t0'⟩ := List.getElem?_eq_some_iff.1 t0
      obtain ⟨ht1, t1'⟩ := List.getElem?_eq_some_iff.1 t1
      obtain ⟨ht2, t2'⟩ := List.getElem?_eq_some_iff.1 t2
      rw [ic66_1]
      refine ab_seq_k fun K33 h33 => ?_
      refine ab_seq_k fun K34 h34 => ?_
      simp [t0, t0']
      refine h34 _ _ _ ?_
      clear h34 K34
      refine ab_cond_of rfl (fun hc2 => ?_) (fun hc2 => ?_)
      · have hil : i < J.length := by simpa using hc2
        obtain ⟨p, hpi, hpm, hle, g1, g2⟩ := lg_at hil
        obtain ⟨hg1, g1'⟩ := List.getElem?_eq_some_iff.1 g1
        obtain ⟨hg2, g2'⟩ := List.getElem?_eq_some_iff.1 g2
        obtain ⟨hpL, hpk⟩ := hc p hpm
        have hmem := isLF_mem hpL
        have hfr := cnt_fr (s := s) (r := r) hpi hpL hpk
        have hcl := cntW_le (w := rowF J.length (wr J (byB J) s r)) (l := p.2.1)
        have hneg := wr_neg (J := J) (B := byB J) (keys := s) (j := i) (r := r)
        have hst := wr_step (J := J) (B := byB J) (keys := s) (r := r) (n := i)
        have hpl := (hJ.2.2 p hpm).2
        have h98 : FSpec Tryz.prog 98 [sl p.2.1 p.2.2, .s id ver 0 J.length 1] σ (.i .i64 (cntW (rowF J.length (wr J (byB J) s r)) p.2.1)) σ := by
          refine FSpec.frozen 2 ?_ rfl
          simp only [List.map_cons, List.map_nil]
          rw [frz_pure (by simp), frz_row (k := 0) t1 (Nat.zero_le _) (by simp) (by simp)]
          have := many98 (l := p.2.1) (w := rowF J.length (wr J (byB J) s r)) (f := p.2.2) (fw := false) (σ := []) (fun x hx => by have := hmem x hx; simp; omega) hpl
          rw [show sl (rowF J.length (wr J (byB J) s r)) false = .ss (ints (rowF J.length (wr J (byB J) s r))) J.length false by simp only [sl, rowF_len]] at this
          exact this
        generalize cntW (rowF J.length (wr J (byB J) s r)) p.2.1 = n at *
        have hwi : (rowF J.length (wr J (byB J) s r))[i]? = some (wr J (byB J) s r i) := rowF_get hil
        simp
        refine h33 _ _ _ ?_
        clear h33 K33
        refine ab_seq_k fun K35 h35 => ?_
        refine ab_block_k fun K36 h36 => ?_
        refine ab_seq_k fun K37 h37 => ?_
        simp [t0, t0', hil, hle, g2, g2']
        refine callK_of h98 ?_
        simp
        refine h37 _ _ _ ?_
        clear h37 K37
        have hend : ∀ env σ, get env 2 = .p 0 0 0 → get env 5 = .s id ver 0 J.length 1 → get env 7 = .i .i64 ((r : Int) + 1) → get env 8 = .s L 0 0 J.length 1 → get env 9 = .i .i64 i → σ[0]? = some (.row 0 [slJ J f]) → σ[id]? = some (.row ver (ints (rowF J.length (wr J (byB J) s r)))) → σ[L]? = some (.row 0 (ints (rowF J.length (midN J s r (i + 1))))) → K36 (some 0) env σ := by
          intro env σ w2 w5 w7 w8 w9 a0 a1 a2
          refine h36 _ _ _ (h35 _ _ _ ?_)
          simp [w2, w5, w7, w8, w9, wrap64 (x := (i : Int) + 1) (by omega) (by omega)]
          exact h32 _ _ _ (again (m2 - 1) (by omega) ⟨i + 1, by omega, by simp, a0, a1, a2⟩)
        clear h32 h35 h36
        generalize hall : decide (p.1 = 0 ∧ n = p.2.1.length) = all
        generalize hsome : decide (p.1 = 1 ∧ 0 < n) = some'
        have hfr2 : (all || some') = frB J (byB J) i (gk J (byB J) s r) := by
          rw [Bool.eq_iff_iff, ← hfr, ← hall, ← hsome, Bool.or_eq_true, decide_eq_true_eq, decide_eq_true_eq]
        refine ab_seq_k fun K38 h38 => ?_
        have hK38 : ∀ env, get env 2 = .p 0 0 0 → get env 5 = .s id ver 0 J.length 1 → get env 7 = .i .i64 ((r : Int) + 1) → get env 8 = .s L 0 0 J.length 1 → get env 9 = .i .i64 i → get env 10 = .i .i64 n → get env 11 = .b all → K38 (some 0) env σ := by
          intro env w2 w5 w7 w8 w9 w10 w11
          refine h38 _ _ _ ?_
          clear h38 K38
          refine ab_seq_k fun K39 h39 => ?_
          have hK39 : ∀ env, get env 2 = .p 0 0 0 → get env 5 = .s id ver 0 J.length 1 → get env 7 = .i .i64 ((r : Int) + 1) → get env 8 = .s L 0 0 J.length 1 → get env 9 = .i .i64 i → get env 11 = .b all → get env 12 = .b some' → K39 (some 0) env σ := by
            intro env w2 w5 w7 w8 w9 w11 w12
            refine h39 _ _ _ ?_
            clear h39 K39
            refine ab_seq_k fun K40 h40 => ?_
            have hK40 : ∀ env c, get env 2 = .p 0 0 0 → get env 5 = .s id ver 0 J.length 1 → get env 7 = .i .i64 ((r : Int) + 1) → get env 8 = .s L 0 0 J.length 1 → get env 9 = .i .i64 i → get env 93 = .b c → c = (!(gk J (byB J) s r).testBit i && frB J (byB J) i (gk J (byB J) s r)) → K40 (some 0) env σ := by
              intro env c w2 w5 w7 w8 w9 w93 hc
              refine h40 _ _ _ ?_
              clear h40 K40
              rw [← hc] at hst
              cases c with
              | true =>
                rw [if_pos ⟨hil, rfl⟩] at hst
                have hms := midN_set (J := J) (keys := s) (r := r) (i := i)
                rw [hst] at hms
                refine ab_cond_of w93 (fun _ => ?_) (fun h => by cases h)
                generalize hG : midN J s r i = G at *
                simp [w2, w5, w7, w8, w9, t2, t2', hil]
                rw [ints_set, rowF_set, hms]
                refine hend _ _ rfl rfl rfl rfl rfl (by rw [List.getElem?_set_ne (by omega)]; exact t0) (by rw [List.getElem?_set_ne (by omega)]; exact t1) (List.getElem?_set_self ht2)
              | false =>
                rw [if_neg (by simp)] at hst
                refine ab_cond_of w93 (fun h => by cases h) (fun _ => ?_)
                simp [w2, w5, w7, w8, w9]
                exact hend _ _ w2 w5 w7 w8 w9 t0 t1 (by rw [t2, midN_same hst])
            clear h40 hend
            have hwi' := rowF_at (n := J.length) (f := wr J (byB J) s r) (k := i) (h := by simpa using hil)
            have hres : ∀ a b : Bool, (all || some') = b → a = decide (wr J (byB J) s r i < 0) → (a && b) = (!(gk J (byB J) s r).testBit i && frB J (byB J) i (gk J (byB J) s r)) := by
              intro a b hb ha
              rw [← hb, hfr2, ha]
              congr 1
              rw [Bool.eq_iff_iff, decide_eq_true_eq, hneg]
              simp [hil]
            by_cases hy : wr J (byB J) s r i < 0
            · cases all with
              | true =>
                simp [t1, t1', hil, w2, w5, w7, w8, w9, w11, w12, hwi, hy]
                exact hK40 _ true rfl rfl rfl rfl rfl rfl (hres true true rfl (by simp [hy]))
              | false =>
                simp [t1, t1', hil, w2, w5, w7, w8, w9, w11, w12, hwi, hy]
                exact hK40 _ some' rfl rfl rfl rfl rfl rfl (hres true some' rfl (by simp [hy]))
            · simp [t1, t1', hil, w2, w5, w7, w8, w9, w11, w12, hwi, hy]
              exact hK40 _ false rfl rfl rfl rfl rfl rfl (hres false _ rfl (by simp [hy]))
          clear h39
          rcases hpk with h0 | h1
          · rw [h0] at g1 g1' hsome
            simp [t0, t0', hil, hle, g1, g1', w2, w5, w7, w8, w9, w10, w11]
            exact hK39 _ rfl rfl rfl rfl rfl rfl (by rw [← hsome]; rfl)
          · rw [h1] at g1 g1' hsome
            simp [t0, t0', hil, hle, g1, g1', w2, w5, w7, w8, w9, w10, w11]
            exact hK39 _ rfl rfl rfl rfl rfl rfl (by rw [← hsome]; simp)
        clear h38
        rcases hpk with h0 | h1
        · rw [h0] at g1 g1' hall
          simp [t0, t0', hil, hle, g1, g1', g2, g2']
          exact hK38 _ rfl rfl rfl rfl rfl rfl (by rw [← hall]; simp; omega)
        · rw [h1] at g1 g1' hall
          simp [t0, t0', hil, hle, g1, g1']
          exact hK38 _ rfl rfl rfl rfl rfl rfl (by rw [← hall]; rfl)
      · have hil : i = J.length := by simp at hc2; omega
        have hmw : rowF J.length (midN J s r i) = rowF J.length (wr J (byB J) s (r + 1)) := by
          refine rowF_congr fun j hj => ?_
          unfold midN
          rw [if_pos (by omega)]
        rw [hmw] at t2
        simp
        refine h31 _ _ _ (h29 _ _ _ ?_)
        simp
        refine h27 _ _ _ (h26 _ _ _ ?_)
        simp [wrap64 (x := (r : Int) + 1 + 1) (by omega) (by omega)]
        exact h23 _ _ _ (again (m - 1) (by omega) ⟨r + 1, .s L 0 0 J.length 1, by omega, by simp, t0, by simp, .inr ⟨by omega, L, 0, by omega, rfl, t2⟩⟩)
    · have hrl : r = J.length := by simp at hc1; omega
      subst hrl
      simp
      refine h22 _ _ _ (h20 _ _ _ ?_)
      refine ab_seq_k fun K50 h50 => ?_
      simp
      refine h50 _ _ _ ?_
      clear h50 K50
      simp
      refine fin_of 2 ?_
      have hz : (J.length == 0) = false := beq_eq_false_iff_ne.2 (by omega)
      simp [-frz, rs66]
      rw [frz_G hv (by simp), hz]
      unfold wavL
      simp
end Go.Ab
