/- Cut: it returns the cutting that the plain function finds. -/
import Derived.Test.YtchmfamkpfaieaaUJ
set_option linter.unusedVariables false
set_option linter.unusedSimpArgs false
set_option maxHeartbeats 4000000
namespace Go.Ab
open Go Go.Proofs

/-- A slice of logs that grows. -/
def AllC (σ : List O) (v : V) (l : List (Int × Int)) : Prop := (l = [] ∧ v = slL l true) ∨ ∃ id ver, 4 ≤ id ∧ v = .s id ver 0 l.length 2 ∧ σ[id]? = some (.row ver (lsV l)) ∧ l ≠ []
/-- What an append does not touch. -/
def Keeps (v : V) (σ σ' : List O) : Prop := σ.length ≤ σ'.length ∧ (∀ j, j < 4 → j < σ.length → σ'[j]? = σ[j]?) ∧ (∀ (j : Nat) (c : V), σ[j]? = some (.row 0 [c]) → σ'[j]? = some (.row 0 [c])) ∧
  ∀ j, j < σ.length → (∀ ver off n es, v ≠ .s j ver off n es) → σ'[j]? = σ[j]?

theorem appC_all {σ : List O} {v : V} {l : List (Int × Int)} {x y : Int} {C : Ct} (h : AllC σ v l) (hk : 4 ≤ σ.length) (hb : (l.length : Int) < 1000000000)
    (hC : ∀ v' σ', AllC σ' v' (l ++ [(x, y)]) → Keeps v σ σ' → C v' σ') : appTo 2 16 v σ C [.i .i64 x, .i .i64 y] 1 := by
  have hz : lsV (l ++ [(x, y)]) = lsV l ++ [.i .i64 x, .i .i64 y] := by rw [lsV_append]; rfl
  rcases h with ⟨-, rfl⟩ | ⟨id, ver, hid, rfl, hs, hne⟩
  · simp only [slL, appTo_ss]
    refine ⟨by simp, by omega, ?_⟩
    have e : (1 : Nat) ≠ 0 := by omega
    try rw [if_neg e]
    refine hC _ _ (.inr ⟨σ.length, 0, hk, by simp, ?_, by simp⟩) ⟨by simp, fun j h1 h2 => List.getElem?_append_left h2, fun j c hj => ?_, fun j h2 _ => List.getElem?_append_left h2⟩
    · rw [hz]; simp
    · rw [List.getElem?_append_left (List.getElem?_eq_some_iff.1 hj).1]; exact hj
  · have hlt := (List.getElem?_eq_some_iff.1 hs).1
    simp only [appTo, hs]
    refine ⟨trivial, trivial, by simp, by omega, ?_⟩
    rw [if_neg (by omega)]
    refine hC _ _ (.inr ⟨id, ver + 1, hid, by simp, ?_, by simp⟩) ⟨by simp, fun j h1 h2 => List.getElem?_set_ne (by omega), fun j c hj => ?_, fun j h2 hj => List.getElem?_set_ne (fun hE => hj ver 0 l.length 2 (by rw [hE]))⟩
    · rw [hz, List.getElem?_set_self hlt]; simp
    · rw [List.getElem?_set_ne]
      · exact hj
      · intro hE
        subst hE
        rw [hs] at hj
        simp only [Option.some.injEq, O.row.injEq] at hj
        have := congrArg List.length hj.2
        simp at this
        omega

theorem lenC_all {σ : List O} {v : V} {l : List (Int × Int)} {C : Ct} (h : AllC σ v l) (hC : C (.i .i64 l.length) σ) : lenC v σ C := by
  rcases h with ⟨-, rfl⟩ | ⟨id, ver, hid, rfl, hs, hne⟩
  · simpa [slL] using hC
  · simp only [lenC, lenK, liveV, hs]
    exact ⟨rfl, hC⟩
theorem slcC_all {σ : List O} {v : V} {l : List (Int × Int)} {C : Ct} (h : AllC σ v l) (hC : C v σ) : slcC 2 v none (some (.i .i64 l.length)) (some (.i .i64 l.length)) σ C := by
  rcases h with ⟨-, rfl⟩ | ⟨id, ver, hid, rfl, hs, hne⟩
  · simp only [slL, slcC_ssHM]
    refine ⟨by omega, by omega, by omega, ?_⟩
    have e : List.take (((l.length : Int).toNat - 0) * 2) (List.drop (0 * 2) (lsV l)) = lsV l := by
      rw [Nat.zero_mul, List.drop_zero]; exact List.take_of_length_le (by simp)
    rw [e]
    simpa using hC
  · simp only [slcC, slcK, slcB, liveV, hs]
    refine ⟨trivial, rfl, by omega, by omega, by omega, ?_⟩
    simpa using hC
theorem AllC.app {σ g : List O} {v : V} {l : List (Int × Int)} (h : AllC σ v l) : AllC (σ ++ g) v l := by
  rcases h with h | ⟨id, ver, h1, h2, h3, h4⟩
  · exact .inl h
  · exact .inr ⟨id, ver, h1, h2, by rw [List.getElem?_append_left (List.getElem?_eq_some_iff.1 h3).1]; exact h3, h4⟩
theorem AllC.set {σ : List O} {v : V} {l : List (Int × Int)} {i : Nat} {c : V} {o : O} (h : AllC σ v l) (hi : i < 4 ∨ σ[i]? = some (.row 0 [c])) : AllC (σ.set i o) v l := by
  rcases h with h | ⟨id, ver, h1, h2, h3, h4⟩
  · exact .inl h
  · refine .inr ⟨id, ver, h1, h2, ?_, h4⟩
    rw [List.getElem?_set_ne]
    · exact h3
    · rintro rfl
      rcases hi with hi | hi
      · omega
      · rw [h3] at hi
        simp only [Option.some.injEq, O.row.injEq] at hi
        have := congrArg List.length hi.2
        simp at this
        omega
theorem AllC.one {σ : List O} {v : V} {l : List (Int × Int)} (h : AllC σ v l) : cellsOf v = some [v] := by
  rcases h with ⟨-, rfl⟩ | ⟨_, _, _, rfl, _⟩ <;> rfl

/-- The heap of Cut. -/
structure HpK (σ : List O) (P : List Int) (v : V) (id : Nat) (a : Nat) (l : List (Int × Int)) : Prop where
  h2 : σ[2]? = some (.row 0 (ints P))
  h3 : σ[3]? = some (.row 0 [v])
  hi : σ[id]? = some (.row 0 [.i .i64 a])
  i4 : 4 ≤ id
  hv : AllC σ v l
theorem HpK.app {σ g : List O} {P v id a l} (h : HpK σ P v id a l) : HpK (σ ++ g) P v id a l :=
  ⟨by rw [List.getElem?_append_left (List.getElem?_eq_some_iff.1 h.h2).1]; exact h.h2, by rw [List.getElem?_append_left (List.getElem?_eq_some_iff.1 h.h3).1]; exact h.h3,
    by rw [List.getElem?_append_left (List.getElem?_eq_some_iff.1 h.hi).1]; exact h.hi, h.i4, h.hv.app⟩
theorem HpK.setAt {σ : List O} {P v id a l} (h : HpK σ P v id a l) (a' : Nat) : HpK (σ.set id (.row 0 [.i .i64 a'])) P v id a' l := by
  have hlt := (List.getElem?_eq_some_iff.1 h.hi).1
  have := h.i4
  exact ⟨by rw [List.getElem?_set_ne (by omega)]; exact h.h2, by rw [List.getElem?_set_ne (by omega)]; exact h.h3, List.getElem?_set_self hlt, h.i4, h.hv.set (.inr h.hi)⟩
/-- The cell of the place, anew. -/
theorem HpK.fresh {σ : List O} {P v id a l} (h : HpK σ P v id a l) : HpK (σ ++ [.row 0 [.i .i64 a]]) P v σ.length a l := by
  have := (List.getElem?_eq_some_iff.1 h.hi).1
  have := h.i4
  have h' := h.app (g := [.row 0 [.i .i64 a]])
  exact ⟨h'.h2, h'.h3, by simp, by omega, h'.hv⟩
theorem HpK.len {σ : List O} {P v id a l} (h : HpK σ P v id a l) : 5 ≤ σ.length := by
  have := (List.getElem?_eq_some_iff.1 h.hi).1
  have := h.i4
  omega

theorem set_app0 {σ : List O} {x y : O} : (σ ++ [x]).set σ.length y = σ ++ [y] := by
  rw [List.set_append_right _ _ (Nat.le_refl _)]; simp
theorem frz_all {σ : List O} {v : V} {l : List (Int × Int)} (h : AllC σ v l) : frz 2 0 σ v = slL l l.isEmpty := by
  rcases h with ⟨rfl, rfl⟩ | ⟨id, ver, h1, rfl, h3, hne⟩
  · exact frz_pure (by simp)
  · rw [frz]
    simp only [V.pure, Bool.false_eq_true, if_false, Nat.not_lt.2 (Nat.zero_le _), h3]
    rw [if_pos ⟨trivial, by simp⟩]
    have e : List.take (l.length * 2) (List.drop 0 (lsV l)) = lsV l := by rw [List.drop_zero]; exact List.take_of_length_le (by simp)
    rw [e, map_frz pure_lsV]
    have : l.isEmpty = false := by cases l with | nil => exact absurd rfl hne | cons => rfl
    rw [this]

theorem frz_pair {σ : List O} {v : V} {l : List (Int × Int)} {e : Int} (h : AllC σ v l) : frz 3 0 σ (.tup [v, .i .i64 e]) = .tup [slL l l.isEmpty, .i .i64 e] := by
  have h2 := frz_all h
  rw [frz]
  split
  · rename_i hp
    simp only [V.pure, pureL, Bool.and_eq_true] at hp
    have : frz 2 0 σ v = v := frz_pure hp.1
    rw [← h2, this]
  · simp only [List.map_cons, List.map_nil, h2]
    rw [frz_pure rfl]

def cutR (t b : List Int) (r : Ru) : List (Int × Int) := if openE t b [r] = 0 then cutL t b r else []

theorem cut_ok {t b : List Int} {ft fb : Bool} {r : Ru} (hsz : Sz t b) : FSpec Try.prog 28 [.agg [sl t ft, sl b fb], .agg r.cells] [] (.tup [slL (cutR t b r) (cutR t b r).isEmpty, .i .i64 (openE t b [r])]) [] := by
  refine fn28.spec0 mixed itT_ok ?_
  rw [ic28]
  have h7 : List.take 7 r.cells = r.cells := rfl
  refine ab_seq_k fun K1 h1 => ?_
  simp
  refine h1 _ _ _ ?_
  clear h1 K1
  refine ab_seq_k fun K2 h2 => ?_
  simp [h7]
  refine callK_of (open1 hsz) ?_
  simp
  refine h2 _ _ _ ?_
  clear h2 K2
  refine ab_seq_k fun K3 h3 => ?_
  refine ab_seq_k fun K4 h4 => ?_
  simp
  refine h4 _ _ _ ?_
  clear h4 K4
  refine ab_cond_of rfl (fun hc => ?_) (fun hc => ?_)
  · simp at hc
    refine ab_seq_k fun K5 h5 => ?_
    simp
    refine h5 _ _ _ ?_
    simp
    exact fin_of 3 (by simp [rs28, cutR, hc, slL, lsV])
  simp at hc
  obtain ⟨ok, hov⟩ := open_some (ft := ft) (fb := fb) hsz hc
  have okk := ok
  obtain ⟨n2, n61, tv, bl, hr⟩ := ok
  rw [hov]
  have hyp := pure_yard (t := t) (ft := ft) (b := b) (fb := fb) (kn := knownK t b r)
  have hlong : ∀ σ, FSpec Try.prog 66 [yardV t ft b fb (knownK t b r)] σ (.i .i64 ((t.length : Int) - 1)) σ := fun σ =>
    FSpec.frame (long_ok (cells := [sl t ft, sl b fb, knownV (knownK t b r)]) (off := 0) (t := ints t) (n := t.length) (full := ft) rfl (by omega)) (by simp [yardV] at hyp ⊢) rfl
  have hlogs : ∀ (fr : Int) σ, FSpec Try.prog 67 [yardV t ft b fb (knownK t b r), .i .i64 fr] σ (.f (.func 84) [] [.sp [.i .i64 fr] 0, .sp [yardV t ft b fb (knownK t b r)] 0]) σ := fun fr σ =>
    FSpec.frame (logs_ok (cells := [sl t ft, sl b fb, knownV (knownK t b r)]) (off := 0) (fr := fr) (by simp)) (by simp) (by simp)
  have hit : ∀ {fr : Nat}, fr < t.length → ItT 84 [] [.sp [.i .i64 fr] 0, .sp [yardV t ft b fb (knownK t b r)] 0] ((logsUp (knownK t b r) fr (t.length - 1 - fr)).map (logV fr)) (fun _ => true = true) := fun h => logs_it (by omega) n61 h
  have hprices := fun σ => pricesAll (ft := ft) (fb := fb) okk (σ := σ)
  have hcut : cutR t b r = cutG (restN t b r allL) (knownK t b r) (t.length - 1) (t.length - 1) 0 := by simp only [cutR, hc, if_true]; rfl
  have hrl : ∀ i, i ≤ t.length - 1 → 0 ≤ restN t b r allL i ∧ restN t b r allL i ≤ 12960000 := fun i hi => restN_le hr tv n61 hi
  have hup : ∀ {a : Nat} {p : Int × Int}, a < t.length - 1 → p ∈ logsUp (knownK t b r) a (t.length - 1 - a) → a < p.1.toNat ∧ 0 ≤ p.1 ∧ p.1.toNat ≤ t.length - 1 ∧ 0 ≤ p.2 ∧ p.2 ≤ 216000 := by
    intro a p ha hp
    obtain ⟨i, hi, hpe, hpos⟩ := logsUp_mem hp
    obtain ⟨to, sv⟩ := p
    simp only [Prod.mk.injEq] at hpe
    obtain ⟨hto, hsv⟩ := hpe
    have := look_known (t := t) (b := b) hr (x := a) (y := (a : Int) + 1 + i) (by omega) (by omega) (by omega)
    have hb := scN_bounds (t := t) (b := b) hr tv (i := a) (j := a + 1 + i)
    unfold scN at hb
    rw [show ((a + 1 + i : Nat) : Int) = (a : Int) + 1 + i by omega, ← this, ← hsv] at hb
    simp only at hpos ⊢
    exact ⟨by omega, by omega, by omega, by omega, by omega⟩
  generalize hkn : knownK t b r = kn at *
  generalize hyd : yardV t ft b fb kn = y at *
  generalize hes : openE t b [r] = es at *
  subst hc
  generalize hvd : restN t b r allL = vv at *
  have hPget : ∀ i, i ≤ t.length - 1 → (outA 61 (valP t b r (fun _ _ => true)) 0)[i]? = some (vv i) := by
    intro i hi
    rw [outA_get (by omega), if_pos (Nat.zero_le _), valP_all hi, hvd]
  have hPl : (outA 61 (valP t b r (fun _ _ => true)) 0).length = 61 := by simp
  generalize hPd : outA 61 (valP t b r (fun _ _ => true)) 0 = P at *
  simp
  refine h3 _ _ _ ?_
  clear h3 K3
  refine ab_seq_k fun K6 h6 => ?_
  simp [-List.reduceReplicate]
  refine callK_of (hprices _) ?_
  simp [-List.reduceReplicate, hPl]
  refine h6 _ _ _ ?_
  clear h6 K6
  refine ab_seq_k fun K7 h7' => ?_
  simp
  refine h7' _ _ _ ?_
  clear h7' K7
  refine ab_seq_k fun K8 h8 => ?_
  simp
  refine h8 _ _ _ ?_
  clear h8 K8
  refine ab_seq_k fun K9 h9 => ?_
  refine ab_seq_k fun K10 h10 => ?_
  simp
  refine h10 _ _ _ ?_
  clear h10 K10
  refine ab_block_k fun K11 h11 => ?_
  refine ab_loop_k (fun m env σ => ∃ (a k : Nat) (v : V) (id : Nat) (out : List (Int × Int)), m = t.length - 1 - a ∧ a ≤ t.length - 1 ∧ t.length - 1 - a ≤ k ∧ out.length ≤ a ∧ cutR t b r = out ++ cutG vv kn (t.length - 1) k a ∧
    env = [(6, y), (8, .p 2 0 0), (9, .p 3 0 0), (10, .p id 0 0)] ∧ HpK σ P v id a out) (t.length - 1)
    ⟨0, t.length - 1, .ss [] 0 true, 4, [], by omega, by omega, by omega, by simp, by simpa using hcut, by simp, ⟨by simp, by simp, by simp, by omega, .inl ⟨rfl, rfl⟩⟩⟩ ?_
  rintro m env σ ⟨a, k, v, id, out, rfl, ha, hk, hol, hcr, rfl, hp⟩ K12 h12
  rw [ic28_1]
  have hi := hp.hi
  have h2' := hp.h2
  have h3' := hp.h3
  refine ab_seq_k fun K13 h13 => ?_
  refine ab_seq_k fun K14 h14 => ?_
  simp [hi]
  refine callK_of (hlong _) ?_
  simp
  refine h14 _ _ _ ?_
  clear h14 K14
  refine ab_cond_of rfl (fun hc2 => ?_) (fun hc2 => ?_)
  · have hlt : a < t.length - 1 := by simp at hc2; omega
    obtain ⟨k, rfl⟩ : ∃ k', k = k' + 1 := ⟨k - 1, by omega⟩
    simp
    refine h13 _ _ _ ?_
    clear h13 K13
    refine ab_seq_k fun K15 h15 => ?_
    have next : ∀ {env : Env} {σ' : List O} {v' : V} {a' k' : Nat} {out' : List (Int × Int)}, get env 6 = y → get env 8 = .p 2 0 0 → get env 9 = .p 3 0 0 → get env 10 = .p id 0 0 → HpK σ' P v' id a' out' → a < a' → a' ≤ t.length - 1 → t.length - 1 - a' ≤ k' →
        out'.length ≤ a' → cutR t b r = out' ++ cutG vv kn (t.length - 1) k' a' → K15 (some 0) env σ' := by
      intro env σ' v' a' k' out' g1 g2 g3 g4 hp' q1 q2 q3 q4 q5
      refine h15 _ _ _ ?_
      refine ab_seq_k fun K16 h16 => ?_
      simp [g1, g2, g3, g4, hp'.hi]
      refine h16 _ _ _ ?_
      simp [set_app0]
      exact h12 _ _ _ (again (t.length - 1 - a') (by omega) ⟨a', k', v', σ'.length, out', rfl, q2, q3, q4, q5, by simp, hp'.fresh⟩)
    clear h15 h12
    refine ab_block_k fun K17 h17 => ?_
    refine ab_seq_k fun K18 h18 => ?_
    refine ab_seq_k fun K19 h19 => ?_
    have g1 := hPget a (by omega)
    have g2 := hPget (a + 1) (by omega)
    obtain ⟨f1, k1⟩ := List.getElem?_eq_some_iff.1 g1
    obtain ⟨f2, k2⟩ := List.getElem?_eq_some_iff.1 g2
    have e1 : ((a : Int) + 1).toNat = a + 1 := by omega
    have e2 : (a : Int) + 1 < 61 := by omega
    have e3 : (0 : Int) ≤ (a : Int) + 1 := by omega
    have e4 : (a : Int) < 61 := by omega
    simp [hi, h2', e1, e2, e3, e4, g1, g2, k1, k2, wrap64 (x := (a : Int) + 1) (by omega) (by omega)]
    refine h19 _ _ _ ?_
    clear h19 K19
    refine ab_cond_of rfl (fun hc3 => ?_) (fun hc3 => ?_)
    · have heq : vv a = vv (a + 1) := by simpa using hc3
      refine ab_seq_k fun K20 h20 => ?_
      simp [hi, wrap64 (x := (a : Int) + 1) (by omega) (by omega)]
      refine h20 _ _ _ ?_
      simp
      refine h17 _ _ _ (next (a' := a + 1) (k' := k) (by simp) (by simp) (by simp) (by simp) (by have := hp.setAt (a + 1); simpa using this) (by omega) (by omega) (by omega) (by omega) ?_)
      rw [hcr]
      simp only [cutG]
      rw [if_pos hlt, if_pos heq]
    · have hne : ¬ vv a = vv (a + 1) := by simpa using hc3
      simp
      refine h18 _ _ _ ?_
      clear h18 K18
      refine ab_seq_k fun K21 h21 => ?_
      refine ab_seq_k fun K22 h22 => ?_
      simp [hi]
      refine callK_of (hlogs _ _) ?_
      simp
      refine h22 _ _ _ ?_
      clear h22 K22
      refine ab_block_k fun K23 h23 => ?_
      refine ⟨_, _, hit (fr := a) (by omega), fun i σ' => (∃ g, σ' = σ ++ g) ∧ ∀ p ∈ (logsUp kn a (t.length - 1 - a)).take i, ¬ vv a = p.2 + vv p.1.toNat, fun _ _ _ => rfl, ⟨⟨[], by simp⟩, by simp⟩, ?_, ?_⟩
      · rintro i x σ' hx ⟨⟨g, rfl⟩, hno⟩
        rw [List.getElem?_map, Option.map_eq_some_iff] at hx
        obtain ⟨p, hpi, rfl⟩ := hx
        have hpm := List.mem_of_getElem? hpi
        obtain ⟨b1, b2, b3, b4, b5⟩ := hup hlt hpm
        have htake : (logsUp kn a (t.length - 1 - a)).take (i + 1) = (logsUp kn a (t.length - 1 - a)).take i ++ [p] := by rw [List.take_add_one, hpi]; rfl
        have hvp := hrl p.1.toNat (by omega)
        have g3 := hPget p.1.toNat (by omega)
        obtain ⟨f3, k3⟩ := List.getElem?_eq_some_iff.1 g3
        have e5 : p.1 < 61 := by omega
        refine ⟨rfl, ?_⟩
        generalize hKR : roundK _ _ _ = KR
        have hfin : ∀ env σ2, ((∃ g, σ2 = σ ++ g) ∧ ∀ p ∈ (logsUp kn a (t.length - 1 - a)).take (i + 1), ¬ vv a = p.2 + vv p.1.toNat) → KR (some 0) env σ2 := by
          intro env σ2 h
          rw [← hKR]
          exact ⟨rfl, .inl h⟩
        clear hKR
        refine ab_seq_k fun K24 h24 => ?_
        simp [logV]
        refine h24 _ _ _ ?_
        simp
        have hpg := (hp.app (g := g)).app (g := [.row 0 [.i .i64 a, .i .i64 p.1]])
        rw [List.append_assoc] at hpg
        rw [ic28_0]
        refine ab_block_k fun K25 h25 => ?_
        refine ab_seq_k fun K26 h26 => ?_
        have hl11 : (σ ++ (g ++ [O.row 0 [.i .i64 a, .i .i64 p.1]]))[σ.length + g.length]? = some (.row 0 [.i .i64 a, .i .i64 p.1]) := by
          rw [← List.append_assoc, List.getElem?_append_right (by simp)]; simp
        have hS : ∃ g', σ ++ (g ++ [O.row 0 [.i .i64 a, .i .i64 p.1]]) = σ ++ g' := ⟨_, rfl⟩
        generalize σ ++ (g ++ [O.row 0 [.i .i64 a, .i .i64 p.1]]) = S at *
        have hil0 : σ.length ≤ σ.length + g.length := by omega
        generalize σ.length + g.length = il at *
        have s2 := hpg.h2
        have s3 := hpg.h3
        have si := hpg.hi
        simp [s2, s3, si, hl11, e4, e5, b2, g1, k1, g3, k3, wrap64 (x := p.2 + vv p.1.toNat) (by omega) (by omega)]
        refine h26 _ _ _ ?_
        clear h26 K26
        refine ab_cond_of rfl (fun hc4 => ?_) (fun hc4 => ?_)
        · have hmt : vv a = p.2 + vv p.1.toNat := by simpa using hc4
          have hfind : (logsUp kn a (t.length - 1 - a)).find? (fun p => decide (vv a = p.2 + vv p.1.toNat)) = some p := by
            obtain ⟨hil, hgi⟩ := List.getElem?_eq_some_iff.1 hpi
            rw [List.find?_eq_some_iff_getElem]
            refine ⟨by simpa using hmt, i, hil, hgi, fun j hj => ?_⟩
            have := hno ((logsUp kn a (t.length - 1 - a))[j]'(by omega)) (by
              rw [List.mem_iff_getElem?]
              exact ⟨j, by rw [List.getElem?_take, if_pos hj, List.getElem?_eq_getElem]⟩)
            simpa using this
          refine ab_seq_k fun K27 h27 => ?_
          simp [s3]
          refine lenC_all hpg.hv ?_
          simp [s3]
          refine lenC_all hpg.hv ?_
          simp [s3]
          refine slcC_all hpg.hv ?_
          simp [hl11]
          refine appC_all hpg.hv (by have := hpg.len; omega) (by omega) ?_
          intro v' S' hv' hkeep
          have hone := hv'.one
          have t3 : S'[3]? = some (.row 0 [v]) := hkeep.2.2.1 3 _ s3
          have ti : S'[id]? = some (.row 0 [.i .i64 a]) := hkeep.2.2.1 id _ si
          have t2 : S'[2]? = some (.row 0 (ints P)) := by rw [hkeep.2.1 2 (by omega) (by have := hpg.len; omega)]; exact s2
          have tl : S'[il]? = some (.row 0 [.i .i64 a, .i .i64 p.1]) := by
            rw [hkeep.2.2.2 il (List.getElem?_eq_some_iff.1 hl11).1 (fun ver off n es hE => ?_)]
            · exact hl11
            · rcases hp.hv with ⟨-, h⟩ | ⟨sid, sver, -, h, hs, -⟩
              · rw [hE] at h; cases h
              · rw [hE] at h
                cases h
                have := (List.getElem?_eq_some_iff.1 hs).1
                omega
          have i4 := hp.i4
          have hpS : HpK (S'.set 3 (.row 0 [v'])) P v' id a (out ++ [((a : Int), p.1)]) :=
            ⟨by rw [List.getElem?_set_ne (by omega)]; exact t2, List.getElem?_set_self (List.getElem?_eq_some_iff.1 t3).1, by rw [List.getElem?_set_ne (by omega)]; exact ti, i4, hv'.set (c := .u) (.inl (by omega))⟩
          have tl2 : (S'.set 3 (.row 0 [v']))[il]? = some (.row 0 [.i .i64 a, .i .i64 p.1]) := by
            rw [List.getElem?_set_ne (by have := hp.len; omega)]; exact tl
          simp [t3, hone]
          refine h27 _ _ _ ?_
          clear h27 K27
          generalize S'.set 3 (.row 0 [v']) = T at *
          refine ab_seq_k fun K28 h28 => ?_
          simp [tl2, hpS.hi]
          refine h28 _ _ _ ?_
          simp [exitK_const]
          refine h17 _ _ _ (next (a' := p.1.toNat) (k' := k) (by simp) (by simp) (by simp) (by simp) (by have := hpS.setAt p.1.toNat; rw [show ((p.1.toNat : Nat) : Int) = p.1 by omega] at this; exact this) (by omega) (by omega) (by omega) (by simp; omega) ?_)
          rw [hcr]
          simp only [cutG]
          rw [if_pos hlt, if_neg hne, hfind, List.append_assoc]
          rfl
        · have hmt : ¬ vv a = p.2 + vv p.1.toNat := by simpa using hc4
          simp
          refine h25 _ _ _ (hfin _ _ ⟨hS, fun q hq => ?_⟩)
          rw [htake] at hq
          rcases List.mem_append.1 hq with hq | hq
          · exact hno q hq
          · simp at hq; subst hq; exact hmt
      · rintro σ' ⟨⟨g, rfl⟩, hno⟩
        refine h23 _ _ _ ?_
        refine h21 _ _ _ ?_
        simp
        refine h11 _ _ _ ?_
        refine h9 _ _ _ ?_
        have hg' := hp.app (g := g)
        refine ab_seq_k fun K30 h30 => ?_
        simp [hg'.h3]
        refine h30 _ _ _ ?_
        simp
        have hnone : (logsUp kn a (t.length - 1 - a)).find? (fun p => decide (vv a = p.2 + vv p.1.toNat)) = none := by
          rw [List.find?_eq_none]
          intro p hp'
          rw [List.length_map, List.take_length] at hno
          simpa using hno p hp'
        have : cutR t b r = out := by
          rw [hcr]
          simp only [cutG]
          rw [if_pos hlt, if_neg hne, hnone, List.append_nil]
        rw [this]
        refine fin_of 3 ?_
        refine ⟨?_, .inr trivial⟩
        exact frz_pair hg'.hv
  · have hal : a = t.length - 1 := by simp at hc2; omega
    subst hal
    simp
    refine h11 _ _ _ ?_
    refine h9 _ _ _ ?_
    refine ab_seq_k fun K30 h30 => ?_
    simp [h3']
    refine h30 _ _ _ ?_
    simp
    have : cutR t b r = out := by
      rw [hcr, cutG_end (Nat.le_refl _), List.append_nil]
    rw [this]
    refine fin_of 3 ?_
    refine ⟨?_, .inr trivial⟩
    exact frz_pair hp.hv
end Go.Ab
