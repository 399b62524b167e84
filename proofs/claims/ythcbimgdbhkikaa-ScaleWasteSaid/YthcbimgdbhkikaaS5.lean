import Derived.Test.YthcbimgdbhkikaaS4
/-! S5: made of UM UN UO UP -/
section
/- Prices, and CheckPrices of the program. -/
set_option linter.unusedVariables false
set_option linter.unusedSimpArgs false
set_option maxHeartbeats 4000000
namespace Go.Ab
open Go Go.Proofs

def pricesL (t b : List Int) (r : Ru) : List Int := if openE t b [r] = 0 then (List.range t.length).map (restN t b r allL) else []

theorem frz_two {σ : List O} {v w : V} {e : Int} (h2 : frz 2 0 σ v = w) : frz 3 0 σ (.tup [v, .i .i64 e]) = .tup [w, .i .i64 e] := by
  rw [frz]
  split
  · rename_i hp
    simp only [V.pure, pureL, Bool.and_eq_true] at hp
    have : frz 2 0 σ v = v := frz_pure hp.1
    rw [← h2, this]
  · simp only [List.map_cons, List.map_nil, h2]
    rw [frz_pure rfl]

theorem prices31 {t b : List Int} {ft fb : Bool} {r : Ru} (hsz : Sz t b) : FSpec Try.prog 31 [.agg [sl t ft, sl b fb], .agg r.cells] [] (.tup [.ss (ints (pricesL t b r)) (pricesL t b r).length (pricesL t b r).isEmpty, .i .i64 (openE t b [r])]) [] := by
  refine fn31.spec0 mixed noIt_ok ?_
  rw [ic31]
  have h7 : List.take 7 r.cells = r.cells := rfl
  refine ab_seq_k fun K1 h1 => ?_
  simp
  refine h1 _ _ _ ?_
  clear h1 K1
  refine ab_seq_k fun K2 h2 => ?_
  simp [h7]
  refine callK_of (open1 hsz) ?_
  simp
  refine h2 _ _ _ ?_
  clear h2 K2
  refine ab_seq_k fun K3 h3 => ?_
  refine ab_seq_k fun K4 h4 => ?_
  simp
  refine h4 _ _ _ ?_
  clear h4 K4
  refine ab_cond_of rfl (fun hc => ?_) (fun hc => ?_)
  · simp at hc
    refine ab_seq_k fun K5 h5 => ?_
    simp
    refine h5 _ _ _ ?_
    simp
    exact fin_of 1 (by simp [rs31, pricesL, hc, ints])
  · simp at hc
    obtain ⟨ok, hov⟩ := open_some (ft := ft) (fb := fb) hsz hc
    rw [hov]
    simp
    refine h3 _ _ _ ?_
    refine ab_seq_k fun K6 h6 => ?_
    simp [-List.reduceReplicate]
    refine callK_of (pricesAll ok) ?_
    have hol : (outA 61 (valP t b r (fun _ _ => true)) 0).length = 61 := by simp
    have htk : (outA 61 (valP t b r (fun _ _ => true)) 0).take t.length = pricesL t b r := by
      have n61 := ok.n61
      have n2 := ok.n2
      simp only [pricesL, hc, if_true]
      apply List.ext_getElem?
      intro i
      by_cases hi : i < t.length
      · rw [List.getElem?_take, if_pos hi, outA_get (by omega), if_pos (Nat.zero_le _), valP_all (by omega), rest_get hi]
      · rw [List.getElem?_eq_none (by simp; omega), List.getElem?_eq_none (by simp; omega)]
    have hpl : (pricesL t b r).length = t.length := by simp [pricesL, hc]
    have n61 := ok.n61
    have n2 := ok.n2
    generalize hout : outA 61 (valP t b r (fun _ _ => true)) 0 = out at *
    simp [-List.reduceReplicate, hol]
    refine h6 _ _ _ ?_
    clear h6 K6
    refine ab_seq_k fun K7 h7' => ?_
    simp [-List.reduceReplicate]
    refine ⟨by omega, by omega, h7' _ _ _ ?_⟩
    clear h7' K7
    refine ab_seq_k fun K8 h8 => ?_
    simp [-List.reduceReplicate]
    refine ⟨by omega, ?_⟩
    have hmin : min 61 t.length = t.length := by omega
    have hrl : (rep t.length [V.i IntKind.i64 0]).length = t.length := by simp [rep]
    have hT : List.take t.length (List.take 61 (ints out)) = ints (pricesL t b r) := by
      rw [List.take_take, Nat.min_eq_left n61, ← htk]; simp [ints, List.map_take]
    have hD : List.drop (min t.length 61) (rep t.length [V.i IntKind.i64 0]) = [] := List.drop_eq_nil_of_le (by omega)
    have hD2 : List.drop t.length (rep t.length [V.i IntKind.i64 0]) = [] := List.drop_eq_nil_of_le (by omega)
    simp [-List.reduceReplicate, cpyK, rowOf, hol, hmin, hT, hD, hD2, hrl]
    refine h8 _ _ _ ?_
    clear h8 K8
    refine ab_seq_k fun K9 h9 => ?_
    simp [-List.reduceReplicate]
    refine h9 _ _ _ ?_
    simp [-List.reduceReplicate]
    have hne : (pricesL t b r).isEmpty = false := by
      cases h : pricesL t b r with
      | nil => rw [h] at hpl; simp at hpl; omega
      | cons => rfl
    refine fin_of 3 ?_
    rw [hne]
    rw [hpl]
    refine ⟨?_, .inr trivial⟩
    simp only [hD2, List.append_nil]
    have := frz_ints (k := 0) (n := 0) (id := 3) (ver := 0) (l := pricesL t b r) (σ := [.row 0 [sl t ft, sl b fb], .row 0 r.cells, .row 0 (ints out), .row 0 (ints (pricesL t b r))]) rfl (by omega)
    rw [hpl] at this
    rw [hc]
    exact frz_two this
end Go.Ab
end

section
/- CheckPrices of the program. -/
set_option linter.unusedVariables false
set_option linter.unusedSimpArgs false
set_option maxHeartbeats 4000000
namespace Go.Ab
open Go Go.Proofs

def pvN (ps : List Int) (i : Nat) : Int := ps.getD i 0
/-- A log from i scales more than the price falls along it, of the first so many. -/
def badLogs (kn : Kn) (ps : List Int) (i j : Nat) : Bool := (logsUp kn i j).any fun p => decide (pvN ps i < p.2 + pvN ps p.1.toNat)
def badAt (kn : Kn) (ps : List Int) (n i : Nat) : Bool := decide (pvN ps i < pvN ps (i + 1)) || badLogs kn ps i (n - 1 - i)
def inGrid (x : Int) : Bool := decide (0 ≤ x) && decide (x ≤ 1099511627776)
def checkPricesP (t b : List Int) (r : Ru) (ps : List Int) : Int × Int :=
  if openE t b [r] ≠ 0 then (0, openE t b [r]) else if ps.length ≠ t.length then (0, 15) else if ps.all inGrid = false then (0, 3)
  else if (List.range (t.length - 1)).any (badAt (knownK t b r) ps t.length) = true then (0, 14) else (pvN ps 0, 0)

/-- The heap of CheckPrices: the prices, and both results, nothing yet. -/
structure HpN (σ : List O) (ps : List Int) (fp : Bool) : Prop where
  h2 : σ[2]? = some (.row 0 [sl ps fp])
  h3 : σ[3]? = some (.row 0 [.i .i64 0])
  h4 : σ[4]? = some (.row 0 [.i .i64 0])
theorem app_get {σ g : List O} {i : Nat} {o : O} (h : σ[i]? = some o) : (σ ++ g)[i]? = some o := by
  rw [List.getElem?_append_left (List.getElem?_eq_some_iff.1 h).1]; exact h
theorem HpN.app {σ g : List O} {ps fp} (h : HpN σ ps fp) : HpN (σ ++ g) ps fp := ⟨app_get h.h2, app_get h.h3, app_get h.h4⟩
theorem HpN.len {σ : List O} {ps fp} (h : HpN σ ps fp) : 5 ≤ σ.length := by
  have := (List.getElem?_eq_some_iff.1 h.h4).1
  omega

theorem any_range_lt {f : Nat → Bool} {n a : Nat} (h : a < n) (hf : f a = true) : (List.range n).any f = true := List.any_eq_true.2 ⟨a, List.mem_range.2 h, hf⟩
theorem any_range_none {f : Nat → Bool} {n : Nat} (h : ∀ a, a < n → f a = false) : (List.range n).any f = false := by
  rw [List.any_eq_false]
  intro a ha
  rw [h a (List.mem_range.1 ha)]
  simp

theorem checkPrices_ok {t b : List Int} {ft fb : Bool} {r : Ru} {ps : List Int} {fp : Bool} (hsz : Sz t b) (hpl : (ps.length : Int) < 1000000000) :
    FSpec Try.prog 29 [.agg [sl t ft, sl b fb], .agg r.cells, sl ps fp] [] (pairV (checkPricesP t b r ps)) [] := by
  refine fn29.spec0 mixed itT_ok ?_
  rw [ic29]
  have h7 : List.take 7 r.cells = r.cells := rfl
  refine ab_seq_k fun K1 h1 => ?_
  simp
  refine h1 _ _ _ ?_
  clear h1 K1
  refine ab_seq_k fun K2 h2 => ?_
  simp [h7]
  refine callK_of (open1 hsz) ?_
  simp
  refine h2 _ _ _ ?_
  clear h2 K2
  have quit : ∀ {c : Int} {env σ K E}, checkPricesP t b r ps = (0, c) → get env 6 = .p 3 0 0 → get env 7 = .p 4 0 0 → HpN σ ps fp →
      ab Try.prog noY ItT 0 ((IC.reg [.op none none (.store1 (.t 6) (.c (.i .i64 0))), .op none none (.store1 (.t 7) (.c (.i .i64 c)))] (some [6, 7])).seq IC.ret) K E (finK rs29 [] (pairV (checkPricesP t b r ps)) []) (some 0) env σ := by
    intro c env σ K E hn g6 g7 hσ
    have h3 := hσ.h3
    have h4 := hσ.h4
    have hl := hσ.len
    have h5 : (σ.set 3 (O.row 0 [V.i IntKind.i64 0]))[4]? = some (.row 0 [.i .i64 0]) := by rw [List.getElem?_set_ne (by omega)]; exact h4
    refine ab_seq_k fun K1 h1 => ?_
    simp [g6, g7, h3, h5]
    refine h1 _ _ _ ?_
    simp
    have w3 : ((σ.set 3 (O.row 0 [V.i IntKind.i64 0])).set 4 (O.row 0 [V.i IntKind.i64 c]))[3]? = some (.row 0 [.i .i64 0]) := by
      rw [List.getElem?_set_ne (by omega)]; exact List.getElem?_set_self (by omega)
    have w4 : ((σ.set 3 (O.row 0 [V.i IntKind.i64 0])).set 4 (O.row 0 [V.i IntKind.i64 c]))[4]? = some (.row 0 [.i .i64 c]) := List.getElem?_set_self (by simp; omega)
    exact fin_of 1 (by simp [rs29, hn, pairV, w3, w4])
  refine ab_seq_k fun K3 h3 => ?_
  refine ab_block_k fun K4 h4 => ?_
  refine ab_seq_k fun K5 h5 => ?_
  simp
  refine h5 _ _ _ ?_
  clear h5 K5
  refine ab_cond_of rfl (fun hc => ?_) (fun hc => ?_)
  · simp at hc
    refine ab_seq_k fun K6 h6 => ?_
    simp
    refine h6 _ _ _ ?_
    simp
    exact fin_of 1 (by simp [rs29, checkPricesP, hc, pairV])
  simp at hc
  obtain ⟨ok, hov⟩ := open_some (ft := ft) (fb := fb) hsz hc
  have okk := ok
  obtain ⟨n2, n61, tv, bl, hr⟩ := ok
  rw [hov]
  have hyp := pure_yard (t := t) (ft := ft) (b := b) (fb := fb) (kn := knownK t b r)
  have hlong : ∀ σ, FSpec Try.prog 66 [yardV t ft b fb (knownK t b r)] σ (.i .i64 ((t.length : Int) - 1)) σ := fun σ =>
    FSpec.frame (long_ok (cells := [sl t ft, sl b fb, knownV (knownK t b r)]) (off := 0) (t := ints t) (n := t.length) (full := ft) rfl (by omega)) (by simp [yardV] at hyp ⊢) rfl
  have hlogs : ∀ (fr : Int) σ, FSpec Try.prog 67 [yardV t ft b fb (knownK t b r), .i .i64 fr] σ (.f (.func 84) [] [.sp [.i .i64 fr] 0, .sp [yardV t ft b fb (knownK t b r)] 0]) σ := fun fr σ =>
    FSpec.frame (logs_ok (cells := [sl t ft, sl b fb, knownV (knownK t b r)]) (off := 0) (fr := fr) (by simp)) (by simp) (by simp)
  have hit : ∀ {fr : Nat}, fr < t.length → ItT 84 [] [.sp [.i .i64 fr] 0, .sp [yardV t ft b fb (knownK t b r)] 0] ((logsUp (knownK t b r) fr (t.length - 1 - fr)).map (logV fr)) (fun _ => true = true) := fun h => logs_it (by omega) n61 h
  have hup : ∀ {a : Nat} {p : Int × Int}, a < t.length - 1 → p ∈ logsUp (knownK t b r) a (t.length - 1 - a) → a < p.1.toNat ∧ 0 ≤ p.1 ∧ p.1.toNat ≤ t.length - 1 ∧ 0 ≤ p.2 ∧ p.2 ≤ 216000 := by
    intro a p ha hp
    obtain ⟨i, hi, hpe, hpos⟩ := logsUp_mem hp
    obtain ⟨to, sv⟩ := p
    simp only [Prod.mk.injEq] at hpe
    obtain ⟨hto, hsv⟩ := hpe
    have := look_known (t := t) (b := b) hr (x := a) (y := (a : Int) + 1 + i) (by omega) (by omega) (by omega)
    have hb := scN_bounds (t := t) (b := b) hr tv (i := a) (j := a + 1 + i)
    unfold scN at hb
    rw [show ((a + 1 + i : Nat) : Int) = (a : Int) + 1 + i by omega, ← this, ← hsv] at hb
    simp only at hpos ⊢
    exact ⟨by omega, by omega, by omega, by omega, by omega⟩
  refine ab_seq_k fun K7 h7' => ?_
  simp
  refine h7' _ _ _ ?_
  clear h7' K7
  refine ab_cond_of rfl (fun hc2 => quit ?_ rfl rfl (by constructor <;> rfl)) (fun hc2 => ?_)
  · have : ¬ ps.length = t.length := by simp at hc2; omega
    simp [checkPricesP, hc, this]
  have hpt : ps.length = t.length := by simp at hc2; omega
  refine ab_seq_k fun K9 h9 => ?_
  simp
  refine callK_of (FSpec.frame (within (l := ps) (full := fp) (lo := 0) (hi := 1099511627776) hpl) (by simp) rfl) ?_
  simp
  refine h9 _ _ _ ?_
  clear h9 K9
  refine ab_cond_of rfl (fun hc3 => quit ?_ rfl rfl (by constructor <;> rfl)) (fun hc3 => ?_)
  · have : ps.all inGrid = false := by simpa [inGrid] using hc3
    simp only [checkPricesP, hc, hpt, this, if_true, if_false, ne_eq, not_true_eq_false]
  have hgrid : ps.all inGrid = true := by
    have h := hc3
    simp only [get_eq, Bool.not_eq_false'] at h
    exact h
  have hpv : ∀ i, i < t.length → 0 ≤ pvN ps i ∧ pvN ps i ≤ 1099511627776 := by
    intro i hi
    have := List.all_eq_true.1 hgrid (ps.getD i 0) (getD_get (l := ps) (by omega)).2.2
    simpa [inGrid, pvN] using this
  have hpg : ∀ i, i < t.length → ps[i]? = some (pvN ps i) := fun i hi => (getD_get (l := ps) (by omega)).1
  simp
  refine h4 _ _ _ ?_
  refine h3 _ _ _ ?_
  clear h3 h4
  have bad : ∀ a, a < t.length - 1 → badAt (knownK t b r) ps t.length a = true → checkPricesP t b r ps = (0, 14) := by
    intro a ha hb
    have : (List.range (t.length - 1)).any (badAt (knownK t b r) ps t.length) = true := any_range_lt ha hb
    simp only [checkPricesP, hc, hpt, hgrid, this, if_true, if_false, ne_eq, not_true_eq_false, Bool.true_eq_false]
  have good : (∀ a, a < t.length - 1 → badAt (knownK t b r) ps t.length a = false) → checkPricesP t b r ps = (pvN ps 0, 0) := by
    intro h
    have := any_range_none h
    simp only [checkPricesP, hc, hpt, hgrid, this, if_true, if_false, ne_eq, not_true_eq_false, Bool.true_eq_false, Bool.false_eq_true]
  generalize hcp : checkPricesP t b r ps = cp at *
  generalize hkn : knownK t b r = kn at *
  generalize hyd : yardV t ft b fb kn = y at *
  refine ab_seq_k fun K11 h11 => ?_
  refine ab_seq_k fun K12 h12 => ?_
  simp
  refine callK_of (hlong _) ?_
  simp
  refine ⟨by omega, by omega, h12 _ _ _ ?_⟩
  clear h12 K12
  refine ab_block_k fun K13 h13 => ?_
  have hz : ∀ {z : List V}, z = z := rfl
  refine ab_loop_k (fun m env σ => ∃ a : Nat, a + m = t.length - 1 ∧ (∀ i, i < a → badAt kn ps t.length i = false) ∧ env = [(5, .p 2 0 0), (6, .p 3 0 0), (7, .p 4 0 0), (8, y), (39, .ss (List.take (t.length - 1) (ints ps)) (t.length - 1) (fp && decide (t.length - 1 = ps.length))), (40, .i .i64 ((t.length - 1 : Nat) : Int)), (41, .i .i64 a)] ∧ HpN σ ps fp) (t.length - 1) ⟨0, by omega, by simp, by simp, by constructor <;> simp⟩ ?_
  rintro m env σ ⟨a, ha, hno, rfl, hp⟩ K14 h14
  have s2 := hp.h2
  have s3 := hp.h3
  have s4 := hp.h4
  rw [ic29_1]
  refine ab_seq_k fun K15 h15 => ?_
  simp
  refine h15 _ _ _ ?_
  clear h15 K15
  refine ab_seq_k fun K16 h16 => ?_
  refine ab_cond_of rfl (fun hc4 => ?_) (fun hc4 => ?_)
  · have hlt : a < t.length - 1 := by simp at hc4; omega
    have q1 := hpg a (by omega)
    have q2 := hpg (a + 1) (by omega)
    obtain ⟨f1, k1⟩ := List.getElem?_eq_some_iff.1 q1
    obtain ⟨f2, k2⟩ := List.getElem?_eq_some_iff.1 q2
    have e1 : ((a : Int) + 1).toNat = a + 1 := by omega
    have e2 : (a : Int) + 1 < t.length := by omega
    have e3 : (0 : Int) ≤ (a : Int) + 1 := by omega
    simp
    refine h16 _ _ _ ?_
    clear h16 K16
    refine ab_seq_k fun K17 h17 => ?_
    refine ab_block_k fun K18 h18 => ?_
    refine ab_seq_k fun K19 h19 => ?_
    simp [hlt, f1, q1, k1]
    refine h19 _ _ _ ?_
    clear h19 K19
    refine ab_seq_k fun K20 h20 => ?_
    refine ab_seq_k fun K21 h21 => ?_
    have hpx := hp.app (g := [.row 0 [.i .i64 (pvN ps a)]])
    have hix : (σ ++ [O.row 0 [.i .i64 (pvN ps a)]])[σ.length]? = some (.row 0 [.i .i64 (pvN ps a)]) := by simp
    have hlx : σ.length + 1 = (σ ++ [O.row 0 [.i .i64 (pvN ps a)]]).length := by simp
    have x2 := hpx.h2
    simp [x2, e1, e2, e3, hpt, q1, q2, k1, k2, wrap64 (x := (a : Int) + 1) (by omega) (by omega)]
    refine h21 _ _ _ ?_
    clear h21 K21
    refine ab_cond_of rfl (fun hc5 => quit ?_ rfl rfl hpx) (fun hc5 => ?_)
    · have : pvN ps a < pvN ps (a + 1) := by simpa using hc5
      exact bad a hlt (by simp [badAt, this])
    · have hle : ¬ pvN ps a < pvN ps (a + 1) := by simpa using hc5
      simp
      refine h20 _ _ _ ?_
      clear h20 K20
      refine ab_seq_k fun K23 h23 => ?_
      simp
      refine callK_of (hlogs _ _) ?_
      simp
      refine h23 _ _ _ ?_
      clear h23 K23
      refine ab_block_k fun K24 h24 => ?_
      refine ⟨_, _, hit (fr := a) (by omega), fun i σ' => HpN σ' ps fp ∧ σ'[σ.length]? = some (.row 0 [.i .i64 (pvN ps a)]) ∧ ∀ p ∈ (logsUp kn a (t.length - 1 - a)).take i, ¬ pvN ps a < p.2 + pvN ps p.1.toNat, fun _ _ _ => rfl, ⟨hpx, hix, by simp⟩, ?_, ?_⟩
      · rintro i x σ' hx ⟨hp', hi', hnp⟩
        rw [List.getElem?_map, Option.map_eq_some_iff] at hx
        obtain ⟨p, hpi, rfl⟩ := hx
        have hpm := List.mem_of_getElem? hpi
        obtain ⟨b1, b2, b3, b4, b5⟩ := hup hlt hpm
        have htake : (logsUp kn a (t.length - 1 - a)).take (i + 1) = (logsUp kn a (t.length - 1 - a)).take i ++ [p] := by rw [List.take_add_one, hpi]; rfl
        have q3 := hpg p.1.toNat (by omega)
        have q4 := hpv p.1.toNat (by omega)
        obtain ⟨f3, k3⟩ := List.getElem?_eq_some_iff.1 q3
        have e5 : p.1 < t.length := by omega
        refine ⟨rfl, ?_⟩
        generalize hKR : roundK _ _ _ = KR
        have hfin : ∀ env σ2, (HpN σ2 ps fp ∧ σ2[σ.length]? = some (.row 0 [.i .i64 (pvN ps a)]) ∧ ∀ p ∈ (logsUp kn a (t.length - 1 - a)).take (i + 1), ¬ pvN ps a < p.2 + pvN ps p.1.toNat) → KR (some 0) env σ2 := by
          intro env σ2 h
          rw [← hKR]
          exact ⟨rfl, .inl h⟩
        clear hKR
        refine ab_seq_k fun K26 h26 => ?_
        simp [logV]
        refine h26 _ _ _ ?_
        simp
        rw [ic29_0]
        refine ab_block_k fun K28 h28 => ?_
        refine ab_seq_k fun K29 h29 => ?_
        have hpa := hp'.app (g := [.row 0 [.i .i64 a, .i .i64 p.1]])
        have hia := app_get (g := [.row 0 [.i .i64 a, .i .i64 p.1]]) hi'
        have hla : (σ' ++ [O.row 0 [.i .i64 a, .i .i64 p.1]])[σ'.length]? = some (.row 0 [.i .i64 a, .i .i64 p.1]) := by simp
        generalize σ' ++ [O.row 0 [.i .i64 a, .i .i64 p.1]] = S at *
        have t2 := hpa.h2
        simp [t2, hia, hla, hpt, e5, b2, q3, k3, wrap64 (x := p.2 + pvN ps p.1.toNat) (by omega) (by omega)]
        refine h29 _ _ _ ?_
        clear h29 K29
        refine ab_cond_of rfl (fun hc6 => ?_) (fun hc6 => ?_)
        · have hb : pvN ps a < p.2 + pvN ps p.1.toNat := by simpa using hc6
          have hbl : badLogs kn ps a (t.length - 1 - a) = true := List.any_eq_true.2 ⟨p, hpm, by simpa using hb⟩
          have hn := bad a hlt (by simp [badAt, hbl])
          have t3 := hpa.h3
          have t4 := hpa.h4
          have hl := hpa.len
          have h5 : (S.set 3 (O.row 0 [V.i IntKind.i64 0]))[4]? = some (.row 0 [.i .i64 0]) := by rw [List.getElem?_set_ne (by omega)]; exact t4
          refine ab_seq_k fun K30 h30 => ?_
          simp [t3, h5]
          refine h30 _ _ _ ?_
          simp
          have w3 : ((S.set 3 (O.row 0 [V.i IntKind.i64 0])).set 4 (O.row 0 [V.i IntKind.i64 14]))[3]? = some (.row 0 [.i .i64 0]) := by
            rw [List.getElem?_set_ne (by omega)]; exact List.getElem?_set_self (by omega)
          have w4 : ((S.set 3 (O.row 0 [V.i IntKind.i64 0])).set 4 (O.row 0 [V.i IntKind.i64 14]))[4]? = some (.row 0 [.i .i64 14]) := List.getElem?_set_self (by simp; omega)
          exact fin_of 1 (by simp [rs29, hn, pairV, w3, w4])
        · have hb : ¬ pvN ps a < p.2 + pvN ps p.1.toNat := by simpa using hc6
          simp
          refine h28 _ _ _ (hfin _ _ ⟨hpa, hia, fun q hq => ?_⟩)
          rw [htake] at hq
          rcases List.mem_append.1 hq with hq | hq
          · exact hnp q hq
          · simp at hq; subst hq; exact hb
      · rintro σ' ⟨hp', -, hno2⟩
        rw [List.length_map, List.take_length] at hno2
        refine h24 _ _ _ ?_
        refine h18 _ _ _ ?_
        refine h17 _ _ _ ?_
        simp [wrap64 (x := (a : Int) + 1) (by omega) (by omega)]
        refine h14 _ _ _ (again (m - 1) (by omega) ⟨a + 1, by omega, ?_, by simp [hpt], hp'⟩)
        intro i hi
        by_cases hia : i < a
        · exact hno i hia
        · have : i = a := by omega
          subst this
          have hb : badLogs kn ps i (t.length - 1 - i) = false := by
            unfold badLogs
            rw [List.any_eq_false]
            intro p hp
            simpa using hno2 p hp
          simp [badAt, hle, hb]
  · have hlt : a = t.length - 1 := by simp at hc4; omega
    subst hlt
    simp
    refine h13 _ _ _ ?_
    refine h11 _ _ _ ?_
    have q1 := hpg 0 (by omega)
    obtain ⟨f1, k1⟩ := List.getElem?_eq_some_iff.1 q1
    have f2 : 0 < t.length := by omega
    have hl := hp.len
    have h5 : (σ.set 3 (O.row 0 [V.i IntKind.i64 (pvN ps 0)]))[4]? = some (.row 0 [.i .i64 0]) := by rw [List.getElem?_set_ne (by omega)]; exact s4
    refine ab_seq_k fun K31 h31 => ?_
    simp [s2, s3, hpt, q1, k1, f2, h5]
    refine h31 _ _ _ ?_
    simp
    have w3 : ((σ.set 3 (O.row 0 [V.i IntKind.i64 (pvN ps 0)])).set 4 (O.row 0 [V.i IntKind.i64 0]))[3]? = some (.row 0 [.i .i64 (pvN ps 0)]) := by
      rw [List.getElem?_set_ne (by omega)]; exact List.getElem?_set_self (by omega)
    have w4 : ((σ.set 3 (O.row 0 [V.i IntKind.i64 (pvN ps 0)])).set 4 (O.row 0 [V.i IntKind.i64 0]))[4]? = some (.row 0 [.i .i64 0]) := List.getElem?_set_self (by simp; omega)
    have := good hno
    exact fin_of 1 (by simp [rs29, this, pairV, w3, w4])
end Go.Ab
end

section
/- CheckPrices of the reference. -/
set_option linter.unusedVariables false
set_option linter.unusedSimpArgs false
set_option maxHeartbeats 4000000
namespace Go.Ab
open Go Go.Proofs

theorem refCheckPrices {t b : List Int} {ft fb : Bool} {r : Ru} {ps : List Int} {fp : Bool} (hsz : Sz t b) (hpl : (ps.length : Int) < 1000000000) :
    FSpec Try.prog 30 [.agg [sl t ft, sl b fb], .agg r.cells, sl ps fp] [] (pairV (checkPricesP t b r ps)) [] := by
  refine fn30.spec0 mixed noIt_ok ?_
  rw [ic30]
  have hchk := refCheck (t := t) (b := b) (ft := ft) (fb := fb) (r := r) hsz.t1 hsz.b1 hsz.bb
  rw [openE_one] at hchk
  have h7 : List.take 7 r.cells = r.cells := rfl
  have quit : ∀ {c : Int} {env σ K E}, checkPricesP t b r ps = (0, c) → ab Try.prog noY noIt 0 ((IC.reg [IS.op (some 6) none (IOp.mov (Od.c (V.i IntKind.i64 0))), IS.op (some 7) none (IOp.mov (Od.c (V.i IntKind.i64 c)))] (some [6, 7])).seq IC.ret) K E (finK rs30 [] (pairV (checkPricesP t b r ps)) []) (some 0) env σ := by
    intro c env σ K E hn
    refine ab_seq_k fun K1 h1 => ?_
    simp
    refine h1 _ _ _ ?_
    simp
    exact fin_of 1 (by simp [rs30, hn, pairV])
  refine ab_seq_k fun K1 h1 => ?_
  simp
  refine h1 _ _ _ ?_
  clear h1 K1
  refine ab_seq_k fun K2 h2 => ?_
  refine ab_seq_k fun K3 h3 => ?_
  simp [h7]
  refine callK_of (FSpec.frame hchk (by simp) rfl) ?_
  simp
  refine h3 _ _ _ ?_
  clear h3 K3
  refine ab_cond_of rfl (fun hc => ?_) (fun hc => ?_)
  · simp at hc
    refine ab_seq_k fun K4 h4 => ?_
    simp [h7]
    refine callK_of (FSpec.frame hchk (by simp) rfl) ?_
    simp
    refine h4 _ _ _ ?_
    simp
    exact fin_of 1 (by simp [rs30, checkPricesP, hc, pairV])
  simp at hc
  obtain ⟨ok, -⟩ := open_some (ft := ft) (fb := fb) hsz hc
  obtain ⟨n2, n61, tv, bl, hr⟩ := ok
  simp
  refine h2 _ _ _ ?_
  clear h2
  refine ab_seq_k fun K5 h5 => ?_
  refine ab_seq_k fun K6 h6 => ?_
  simp
  refine h6 _ _ _ ?_
  clear h6 K6
  refine ab_cond_of rfl (fun hc2 => quit ?_) (fun hc2 => ?_)
  · have : ¬ ps.length = t.length := by simp at hc2; omega
    simp [checkPricesP, hc, this]
  have hpt : ps.length = t.length := by simp at hc2; omega
  simp
  refine h5 _ _ _ ?_
  clear h5
  refine ab_seq_k fun K7 h7' => ?_
  refine ab_seq_k fun K8 h8 => ?_
  simp
  refine h8 _ _ _ ?_
  clear h8 K8
  refine ab_block_k fun K9 h9 => ?_
  refine ab_loop_k (fun m env σ => ∃ i : Nat, i + m = t.length ∧ (ps.take i).all inGrid = true ∧ env = [(2, sl ps fp), (3, .p 0 0 0), (4, .p 1 0 0), (8, .i .i64 i)] ∧ σ = hpB t b ft fb r) t.length ⟨0, by omega, by simp, by simp, rfl⟩ ?_
  rintro m env σ ⟨i, hi, hyes, rfl, rfl⟩ K10 h10
  rw [ic30_0]
  refine ab_seq_k fun K11 h11 => ?_
  refine ab_seq_k fun K12 h12 => ?_
  simp
  refine h12 _ _ _ ?_
  clear h12 K12
  refine ab_cond_of rfl (fun hc3 => ?_) (fun hc3 => ?_)
  · have hlt : i < ps.length := by simp at hc3; omega
    obtain ⟨q1, q2, q3⟩ : ps[i]? = some (pvN ps i) ∧ ps[i] = pvN ps i ∧ pvN ps i ∈ ps := getD_get hlt
    have hfit : fit 0 1099511627776 (pvN ps i) = inGrid (pvN ps i) := rfl
    have htake : ps.take (i + 1) = ps.take i ++ [pvN ps i] := by rw [List.take_add_one, q1]; rfl
    simp
    refine h11 _ _ _ ?_
    refine ab_seq_k fun K13 h13 => ?_
    refine ab_block_k fun K14 h14 => ?_
    refine ab_seq_k fun K15 h15 => ?_
    simp [hpB, hlt, q1, q2]
    refine callK_of (FSpec.frame refWithin (by simp) rfl) ?_
    simp [hfit]
    refine h15 _ _ _ ?_
    clear h15 K15
    refine ab_cond_of rfl (fun hc4 => quit ?_) (fun hc4 => ?_)
    · have hf : inGrid (pvN ps i) = false := by simpa using hc4
      have : ps.all inGrid = false := by rw [List.all_eq_false]; exact ⟨_, q3, by rw [hf]; simp⟩
      simp only [checkPricesP, hc, hpt, this, if_true, if_false, ne_eq, not_true_eq_false]
    · have hf : inGrid (pvN ps i) = true := by simpa using hc4
      simp
      refine h14 _ _ _ ?_
      refine h13 _ _ _ ?_
      simp [wrap64 (x := (i : Int) + 1) (by omega) (by omega)]
      refine h10 _ _ _ (again (m - 1) (by omega) ⟨i + 1, by omega, ?_, by simp, rfl⟩)
      rw [htake, List.all_append, hyes, List.all_cons, hf]; rfl
  have hlt : i = ps.length := by simp at hc3; omega
  subst hlt
  have hgrid : ps.all inGrid = true := by simpa using hyes
  have hpv : ∀ i, i < t.length → 0 ≤ pvN ps i ∧ pvN ps i ≤ 1099511627776 := by
    intro i hi
    have := List.all_eq_true.1 hgrid (ps.getD i 0) (getD_get (l := ps) (by omega)).2.2
    simpa [inGrid, pvN] using this
  have hpg : ∀ i, i < t.length → ps[i]? = some (pvN ps i) := fun i hi => (getD_get (l := ps) (by omega)).1
  have bad : ∀ a, a < t.length - 1 → badAt (knownK t b r) ps t.length a = true → checkPricesP t b r ps = (0, 14) := by
    intro a ha hb
    have : (List.range (t.length - 1)).any (badAt (knownK t b r) ps t.length) = true := any_range_lt ha hb
    simp only [checkPricesP, hc, hpt, hgrid, this, if_true, if_false, ne_eq, not_true_eq_false, Bool.true_eq_false]
  have good : (∀ a, a < t.length - 1 → badAt (knownK t b r) ps t.length a = false) → checkPricesP t b r ps = (pvN ps 0, 0) := by
    intro h
    have := any_range_none h
    simp only [checkPricesP, hc, hpt, hgrid, this, if_true, if_false, ne_eq, not_true_eq_false, Bool.true_eq_false, Bool.false_eq_true]
  have hlong : ∀ σ, FSpec Try.prog 43 [.agg [sl t ft, sl b fb]] σ (.i .i64 ((t.length : Int) - 1)) σ := fun σ =>
    FSpec.frame (refLong (ts := ints t) (n := t.length) (ft := ft) (x := sl b fb) (by omega)) (by simp) rfl
  have hscale : ∀ {x y : Nat} σ, x < y → y < t.length → FSpec Try.prog 45 [.agg [sl t ft, sl b fb], .agg r.cells, .i .i64 x, .i .i64 y] σ (.i .i64 (scaleP t b r x y)) σ := fun {x y} σ h1 h2 =>
    FSpec.frame (refScale (t := t) (b := b) (ft := ft) (fb := fb) (r := r) (x := x) (y := y) n61 tv bl hr (by omega) (by omega) (by omega)) (by simp) rfl
  have hsb : ∀ {x y : Nat}, 0 ≤ scaleP t b r x y ∧ scaleP t b r x y ≤ 216000 := fun {x y} => scN_bounds (t := t) (b := b) hr tv (i := x) (j := y)
  have hlk : ∀ {x y : Nat}, x < y → y < t.length → look (knownK t b r) (x, y) = scaleP t b r x y := fun h1 h2 => look_known hr (by omega) (by omega) (by omega)
  simp
  refine h9 _ _ _ ?_
  refine h7' _ _ _ ?_
  clear h7' h9 h10 h11
  refine ab_seq_k fun K16 h16 => ?_
  refine ab_seq_k fun K17 h17 => ?_
  simp
  refine h17 _ _ _ ?_
  clear h17 K17
  refine ab_block_k fun K18 h18 => ?_
  refine ab_loop_k (fun m env σ => ∃ a : Nat, a + m = t.length - 1 ∧ (∀ i, i < a → badAt (knownK t b r) ps t.length i = false) ∧ env = [(2, sl ps fp), (3, .p 0 0 0), (4, .p 1 0 0), (9, .i .i64 a)] ∧ σ = hpB t b ft fb r) (t.length - 1) ⟨0, by omega, by simp, by simp, rfl⟩ ?_
  rintro m env σ ⟨a, ha, hno, rfl, rfl⟩ K19 h19
  rw [ic30_2]
  refine ab_seq_k fun K20 h20 => ?_
  refine ab_seq_k fun K21 h21 => ?_
  simp [hpB]
  refine callK_of (hlong _) ?_
  simp
  refine h21 _ _ _ ?_
  clear h21 K21
  refine ab_cond_of rfl (fun hc4 => ?_) (fun hc4 => ?_)
  · have hlt : a < t.length - 1 := by simp at hc4; omega
    have q1 := hpg a (by omega)
    have q2 := hpg (a + 1) (by omega)
    obtain ⟨f1, k1⟩ := List.getElem?_eq_some_iff.1 q1
    obtain ⟨f2, k2⟩ := List.getElem?_eq_some_iff.1 q2
    have e1 : ((a : Int) + 1).toNat = a + 1 := by omega
    have e2 : (a : Int) + 1 < t.length := by omega
    have e3 : (0 : Int) ≤ (a : Int) + 1 := by omega
    have e4 : (a : Int) < t.length := by omega
    have e5 : a < t.length := by omega
    simp
    refine h20 _ _ _ ?_
    refine ab_seq_k fun K24 h24 => ?_
    refine ab_block_k fun K25 h25 => ?_
    refine ab_seq_k fun K26 h26 => ?_
    refine ab_seq_k fun K27 h27 => ?_
    simp [e1, e2, e3, e4, e5, hpt, q1, q2, k1, k2, wrap64 (x := (a : Int) + 1) (by omega) (by omega)]
    refine h27 _ _ _ ?_
    clear h27 K27
    refine ab_cond_of rfl (fun hc5 => quit (bad a hlt ?_)) (fun hc5 => ?_)
    · have : pvN ps a < pvN ps (a + 1) := by simpa using hc5
      simp [badAt, this]
    · have hle : ¬ pvN ps a < pvN ps (a + 1) := by simpa using hc5
      simp
      refine h26 _ _ _ ?_
      clear h26 K26
      refine ab_seq_k fun K29 h29 => ?_
      simp [wrap64 (x := (a : Int) + 1) (by omega) (by omega)]
      refine h29 _ _ _ ?_
      clear h29 K29
      refine ab_block_k fun K30 h30 => ?_
      refine ab_loop_k (fun m env σ => ∃ j : Nat, j + m = t.length - 1 - a ∧ badLogs (knownK t b r) ps a j = false ∧ env = [(2, sl ps fp), (3, .p 0 0 0), (4, .p 1 0 0), (9, .i .i64 a), (10, .i .i64 ((a : Int) + 1 + j))] ∧ σ = hpB t b ft fb r) (t.length - 1 - a) ⟨0, by omega, by simp [badLogs, logsUp], by simp, rfl⟩ ?_
      rintro m2 env σ ⟨j, hj, hnj, rfl, rfl⟩ K31 h31
      rw [ic30_1]
      refine ab_seq_k fun K32 h32 => ?_
      refine ab_seq_k fun K33 h33 => ?_
      simp [hpB]
      refine callK_of (hlong _) ?_
      simp
      refine h33 _ _ _ ?_
      clear h33 K33
      refine ab_cond_of rfl (fun hc6 => ?_) (fun hc6 => ?_)
      · have hjl : a + 1 + j < t.length := by simp at hc6; omega
        have hjn : ((a + 1 + j : Nat) : Int) = (a : Int) + 1 + j := by omega
        have r1 := hpg (a + 1 + j) hjl
        obtain ⟨f3, k3⟩ := List.getElem?_eq_some_iff.1 r1
        have hlk' := hlk (x := a) (y := a + 1 + j) (by omega) hjl
        have hsb' := hsb (x := a) (y := a + 1 + j)
        have hs' := fun σ => hscale (x := a) (y := a + 1 + j) σ (by omega) hjl
        rw [hjn] at hlk' hsb' hs'
        generalize scaleP t b r a ((a : Int) + 1 + j) = sc at *
        have hpv1 := hpv (a + 1 + j) hjl
        have g1 : ((a : Int) + 1 + j).toNat = a + 1 + j := by omega
        have g2 : (0 : Int) ≤ (a : Int) + 1 + j := by omega
        have g3 : (a : Int) + 1 + j < t.length := by omega
        have hnext : badLogs (knownK t b r) ps a (j + 1) = (decide (0 < sc) && decide (pvN ps a < sc + pvN ps (a + 1 + j))) := by
          unfold badLogs at hnj ⊢
          rw [logsUp, List.any_append, hnj, hlk', Bool.false_or]
          by_cases hp : 0 < sc <;> simp [hp, g1]
        simp
        refine h32 _ _ _ ?_
        refine ab_seq_k fun K34 h34 => ?_
        refine ab_block_k fun K35 h35 => ?_
        refine ab_seq_k fun K36 h36 => ?_
        simp [h7]
        refine callK_of (hs' _) ?_
        simp
        refine h36 _ _ _ ?_
        clear h36 K36
        refine ab_seq_k fun K37 h37 => ?_
        have c1 : ∀ {env v}, get env 80 = .b v → get env 2 = sl ps fp → get env 3 = .p 0 0 0 → get env 4 = .p 1 0 0 → get env 9 = .i .i64 a → get env 10 = .i .i64 ((a : Int) + 1 + j) → v = badLogs (knownK t b r) ps a (j + 1) → K37 (some 0) env (hpB t b ft fb r) := by
          intro env v z1 z2 z3 z4 z5 z6 hv
          refine h37 _ _ _ ?_
          refine ab_cond_of z1 (fun hv1 => quit (bad a hlt ?_)) (fun hv1 => ?_)
          · rw [hv1] at hv
            have : badLogs (knownK t b r) ps a (t.length - 1 - a) = true := by
              obtain ⟨r', hr'⟩ := logsUp_pre (kn := knownK t b r) (fr := a) (d := t.length - 1 - a - (j + 1)) (j := j + 1)
              rw [show j + 1 + (t.length - 1 - a - (j + 1)) = t.length - 1 - a by omega] at hr'
              unfold badLogs at hv ⊢
              rw [hr', List.any_append, ← hv]
              rfl
            simp [badAt, this]
          · rw [hv1] at hv
            simp
            refine h35 _ _ _ ?_
            refine h34 _ _ _ ?_
            simp [z2, z3, z4, z5, z6, wrap64 (x := (a : Int) + 1 + j + 1) (by omega) (by omega)]
            refine h31 _ _ _ (again (m2 - 1) (by omega) ⟨j + 1, by omega, hv.symm, by simp [z2, z3, z4, z5, z6]; omega, rfl⟩)
        rw [hnext] at c1
        simp [e4, e5, g1, g2, g3, hpt, q1, k1, r1, k3, wrap64 (x := sc + pvN ps (a + 1 + j)) (by omega) (by omega)]
        repeat' (refine opG_split (fun c => ?_) (fun c => ?_) <;> simp [c, e4, e5, g1, g2, g3, hpt, f1, q1, k1, r1, k3, wrap64 (x := sc + pvN ps (a + 1 + j)) (by omega) (by omega)])
        all_goals
          apply c1
          · rfl
          · rfl
          · rfl
          · rfl
          · rfl
          · rfl
          first | (simp_all; done) | (simp_all; omega) | (rw [Bool.eq_iff_iff]; simp_all; omega)
      · have hjl : j = t.length - 1 - a := by simp at hc6; omega
        subst hjl
        simp
        refine h30 _ _ _ ?_
        refine h25 _ _ _ ?_
        refine h24 _ _ _ ?_
        simp [wrap64 (x := (a : Int) + 1) (by omega) (by omega)]
        refine h19 _ _ _ (again (m - 1) (by omega) ⟨a + 1, by omega, ?_, by simp, rfl⟩)
        intro i hi
        by_cases hia : i < a
        · exact hno i hia
        · have : i = a := by omega
          subst this
          simp [badAt, hle, hnj]
  · have hlt : a = t.length - 1 := by simp at hc4; omega
    subst hlt
    simp
    refine h18 _ _ _ ?_
    refine h16 _ _ _ ?_
    have q1 := hpg 0 (by omega)
    obtain ⟨f1, k1⟩ := List.getElem?_eq_some_iff.1 q1
    have f2 : 0 < t.length := by omega
    refine ab_seq_k fun K31 h31 => ?_
    simp [hpt, q1, k1, f2]
    refine h31 _ _ _ ?_
    simp
    have := good hno
    exact fin_of 1 (by simp [rs30, this, pairV])
end Go.Ab
end

section
/- The law ScalePrices: it returns true. -/
set_option linter.unusedVariables false
set_option linter.unusedSimpArgs false
set_option maxHeartbeats 4000000
namespace Go.Ab
open Go Go.Proofs

section
variable {sc : Nat → Nat → Int} {lt : Nat → Nat → Bool} {vn : Nat → Int}
theorem acc_base {i : Nat} : ∀ {j : Nat}, vn (i + 1) ≤ acc sc lt vn i j
  | 0 => Int.le_refl _
  | j + 1 => by
    have := acc_base (i := i) (j := j)
    simp only [acc]
    split
    · omega
    · exact this
theorem acc_ge {i k : Nat} : ∀ {j : Nat}, k < j → 0 < sc i (i + 1 + k) → lt i (i + 1 + k) = true → sc i (i + 1 + k) + vn (i + 1 + k) ≤ acc sc lt vn i j
  | 0, h, _, _ => absurd h (by omega)
  | j + 1, h, hp, hl => by
    simp only [acc]
    by_cases hk : k = j
    · subst hk
      rw [if_pos ⟨hp, hl⟩]
      omega
    · have := acc_ge (i := i) (k := k) (j := j) (by omega) hp hl
      split
      · omega
      · exact this
end

theorem pvN_prices {t b : List Int} {r : Ru} (hE : openE t b [r] = 0) {i : Nat} (hi : i < t.length) : pvN (pricesL t b r) i = restN t b r allL i := by
  simp only [pvN, pricesL, hE, if_true]
  rw [List.getD_eq_getElem?_getD, rest_get hi]
  rfl

theorem prices_right {t b : List Int} {r : Ru} (ok : Ok t b r) (hE : openE t b [r] = 0) : checkPricesP t b r (pricesL t b r) = (restN t b r allL 0, 0) := by
  obtain ⟨n2, n61, tv, bl, hr⟩ := ok
  have hlen : (pricesL t b r).length = t.length := by simp [pricesL, hE]
  have hgrid : (pricesL t b r).all inGrid = true := by
    rw [List.all_eq_true]
    intro x hx
    simp only [pricesL, hE, if_true, List.mem_map, List.mem_range] at hx
    obtain ⟨i, hi, rfl⟩ := hx
    have := restN_le (b := b) (l := allL) hr tv n61 (i := i) (by omega)
    simp [inGrid]
    omega
  have hbad : (List.range (t.length - 1)).any (badAt (knownK t b r) (pricesL t b r) t.length) = false := by
    refine any_range_none fun a ha => ?_
    have hrec : restN t b r allL a = acc (scN t b r) allL.letsN (restN t b r allL) a (t.length - 1 - a) := val_rec ha
    simp only [badAt, Bool.or_eq_false_iff, decide_eq_false_iff_not]
    constructor
    · rw [pvN_prices hE (by omega), pvN_prices hE (by omega), hrec]
      have := acc_base (sc := scN t b r) (lt := allL.letsN) (vn := restN t b r allL) (i := a) (j := t.length - 1 - a)
      omega
    · unfold badLogs
      rw [List.any_eq_false]
      intro p hp
      obtain ⟨i, hi, hpe, hpos⟩ := logsUp_mem hp
      obtain ⟨to, sv⟩ := p
      simp only [Prod.mk.injEq] at hpe
      obtain ⟨hto, hsv⟩ := hpe
      have hlk := look_known (t := t) (b := b) hr (x := a) (y := (a : Int) + 1 + i) (by omega) (by omega) (by omega)
      have hton : to.toNat = a + 1 + i := by omega
      have hsc : sv = scN t b r a (a + 1 + i) := by
        rw [hsv, hlk]; unfold scN
        rw [show ((a + 1 + i : Nat) : Int) = (a : Int) + 1 + i by omega]
      simp only at hpos ⊢
      have := acc_ge (sc := scN t b r) (lt := allL.letsN) (vn := restN t b r allL) (i := a) (k := i) (j := t.length - 1 - a) hi (by omega) (by exact allL_lets)
      rw [hton, pvN_prices hE (by omega), pvN_prices hE (by omega), hrec]
      simp
      omega
  simp only [checkPricesP, hE, hlen, hgrid, hbad, if_true, if_false, ne_eq, not_true_eq_false, Bool.true_eq_false, Bool.false_eq_true]
  rw [pvN_prices hE (by omega)]

theorem scalePrices {t b : List Int} {ft fb : Bool} {r : Ru} {ps : List Int} {fp : Bool} (ht : (t.length : Int) < 9223372036854775808) (hb : (b.length : Int) < 9223372036854775808) (hl : (ps.length : Int) < 9223372036854775808) (hbb : ∀ x ∈ b, -9223372036854775808 ≤ x ∧ x < 9223372036854775808) :
    FSpec Try.prog 5 [.agg [sl t ft, sl b fb], .agg r.cells, sl ps fp] [] (.b true) [] := by
  refine fn5.spec0 mixed noIt_ok ?_
  rw [ic5]
  have h7 : List.take 7 r.cells = r.cells := rfl
  have finish : ∀ {env σ K E}, ab Try.prog noY noIt 0 ((IC.reg [IS.call (some 24) none 17 [], IS.op (some 6) none (IOp.mov (Od.t 24))] (some [6])).seq IC.ret) K E (finK rs5 [] (V.b true) []) (some 0) env σ := by
    intro env σ K E
    refine ab_seq_k fun K1 h1 => ?_
    simp
    refine callK_of works0 ?_
    simp
    refine h1 _ _ _ ?_
    simp
    exact fin_of 1 (by simp [rs5])
  refine ab_seq_k fun K1 h1 => ?_
  simp
  refine h1 _ _ _ ?_
  clear h1 K1
  refine ab_seq_k fun K2 h2 => ?_
  refine ab_seq_k fun K3 h3 => ?_
  simp
  refine callK_of (FSpec.frame (great_ok (t := t) (b := b) ht hb) (by simp) rfl) ?_
  simp
  have c1 : ∀ {env v}, get env 23 = .b v → get env 2 = sl ps fp → get env 3 = .p 0 0 0 → get env 4 = .p 1 0 0 → v = (decide (70 < t.length) || decide (70 < b.length) || decide (70 < ps.length)) → K3 (some 0) env (hpB t b ft fb r) := by
    intro env v e1 e2 e3 e4 hv
    refine h3 _ _ _ ?_
    refine ab_cond_of e1 (fun hc => finish) (fun hc => ?_)
    rw [hc] at hv
    have hv := hv.symm
    simp only [Bool.or_eq_false_iff, decide_eq_false_iff_not] at hv
    have hsz : Sz t b := ⟨by omega, by omega, hbb⟩
    have hl2 : (ps.length : Int) < 1000000000 := by omega
    simp
    refine h2 _ _ _ ?_
    clear h2 h3
    refine ab_seq_k fun K5 h5 => ?_
    simp [e2, e3, e4, hpB, h7]
    refine callK_of (FSpec.frame (checkPrices_ok (ft := ft) (fb := fb) (r := r) (ps := ps) (fp := fp) hsz hl2) (by simp) (by simp [pairV])) ?_
    simp [pairV]
    refine h5 _ _ _ ?_
    clear h5 K5
    refine ab_seq_k fun K6 h6 => ?_
    simp [e2, e3, e4, h7]
    refine callK_of (FSpec.frame (refCheckPrices (ft := ft) (fb := fb) (r := r) (ps := ps) (fp := fp) hsz hl2) (by simp) (by simp [pairV])) ?_
    simp [pairV]
    refine h6 _ _ _ ?_
    clear h6 K6
    refine ab_seq_k fun K7 h7' => ?_
    simp [e3, e4, h7]
    refine callK_of (FSpec.frame (prices31 (ft := ft) (fb := fb) (r := r) hsz) (by simp) (by simp)) ?_
    simp
    refine h7' _ _ _ ?_
    clear h7' K7
    refine ab_seq_k fun K8 h8 => ?_
    simp [e3, e4, h7]
    refine callK_of (FSpec.frame (refBest (ft := ft) (fb := fb) (r := r) hsz) (by simp) (by simp [pairV])) ?_
    simp [pairV]
    refine h8 _ _ _ ?_
    clear h8 K8
    have hbs : (bestP t b r).2 = openE t b [r] := by
      unfold bestP
      split
      · rfl
      · rename_i h; exact (Classical.not_not.1 h).symm
    refine ab_seq_k fun K10 h10 => ?_
    refine ab_seq_k fun K11 h11 => ?_
    simp [hbs]
    refine h11 _ _ _ ?_
    clear h11 K11
    refine ab_cond_of rfl (fun hc => by cases hc) (fun _ => ?_)
    simp
    refine h10 _ _ _ ?_
    clear h10
    refine ab_seq_k fun K13 h13 => ?_
    refine ab_seq_k fun K14 h14 => ?_
    simp
    refine h14 _ _ _ ?_
    clear h14 K14
    refine ab_cond_of rfl (fun hc2 => ?_) (fun hc2 => ?_)
    · have hE : openE t b [r] ≠ 0 := by simpa using hc2
      have hR : pricesL t b r = [] := by simp [pricesL, hE]
      rw [hR]
      refine ab_seq_k fun K15 h15 => ?_
      simp [ints]
      refine callK_of works0 ?_
      simp
      refine h15 _ _ _ ?_
      simp
      exact fin_of 1 (by simp [rs5])
    · have hE : openE t b [r] = 0 := by simpa using hc2
      obtain ⟨ok, -⟩ := open_some (ft := ft) (fb := fb) hsz hE
      have hright := prices_right ok hE
      have hb1 : (bestP t b r).1 = restN t b r allL 0 := by simp [bestP, hE]
      have hlc : ((pricesL t b r).length : Int) < 1000000000 := by
        have : (pricesL t b r).length = t.length := by simp [pricesL, hE]
        omega
      simp
      refine h13 _ _ _ ?_
      clear h13
      refine ab_seq_k fun K16 h16 => ?_
      simp [h7]
      refine callK_of (FSpec.frame (refCheckPrices (ft := ft) (fb := fb) (r := r) (ps := pricesL t b r) (fp := (pricesL t b r).isEmpty) hsz hlc) (by simp) (by simp [pairV])) ?_
      simp [pairV, hright]
      refine h16 _ _ _ ?_
      clear h16 K16
      refine ab_seq_k fun K17 h17 => ?_
      simp [hb1]
      refine callK_of works0 ?_
      simp
      refine h17 _ _ _ ?_
      simp
      exact fin_of 1 (by simp [rs5])
  by_cases hg : 70 < t.length ∨ 70 < b.length
  · have hg' : (decide (70 < t.length) || decide (70 < b.length)) = true := by simpa using hg
    simp [hg']
    refine c1 (v := true) rfl rfl rfl rfl ?_
    rw [hg']; rfl
  · have hg' : (decide (70 < t.length) || decide (70 < b.length)) = false := by simpa using hg
    simp [hg']
    refine c1 (v := decide (70 < (ps.length : Int))) rfl rfl rfl rfl ?_
    rw [hg', Bool.false_or, Bool.eq_iff_iff]
    simp
    omega
end Go.Ab
end
