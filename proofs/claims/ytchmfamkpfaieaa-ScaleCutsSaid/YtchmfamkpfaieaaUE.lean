/- prices: what best cuttings of logs that are let scale from each place on. -/
import Derived.Test.YtchmfamkpfaieaaUD
import Derived.Test.YtchmfamkpfaieaaU5
import Derived.Test.YtchmfamkpfaieaaAbW
set_option linter.unusedVariables false
set_option linter.unusedSimpArgs false
set_option maxHeartbeats 4000000
namespace Go.Ab
open Go Go.Proofs

/-! ### A slice that grows -/
def AllIs (k : Nat) (σ : List O) (v : V) (l : List Int) : Prop := v = sl l true ∨ ∃ id ver, k ≤ id ∧ v = .s id ver 0 l.length 1 ∧ σ[id]? = some (.row ver (ints l))

theorem app_all {k : Nat} {σ : List O} {v : V} {l : List Int} {z : Int} {C : Ct} (h : AllIs k σ v l) (hk : k ≤ σ.length) (hb : (l.length : Int) < 1000000000)
    (hC : ∀ v' σ', AllIs k σ' v' (l ++ [z]) → σ'.take k = σ.take k → C v' σ') : appK 1 8 v (.ss [.i .i64 z] 1 true) σ C := by
  have hz : ints (l ++ [z]) = ints l ++ [.i .i64 z] := by simp [ints]
  rcases h with rfl | ⟨id, ver, hid, rfl, hs⟩
  · refine ⟨by simp, ?_⟩
    simp only [sl]
    refine ⟨by simp, by omega, ?_⟩
    rw [if_neg (by omega)]
    refine hC _ _ (.inr ⟨σ.length, 0, hk, by simp, ?_⟩) ?_
    · rw [hz]; simp
    · rw [List.take_append_of_le_length hk]
  · refine ⟨by simp, ?_⟩
    have hlt := (List.getElem?_eq_some_iff.1 hs).1
    simp only [hs]
    refine ⟨trivial, trivial, by simp, by omega, ?_⟩
    rw [if_neg (by omega)]
    refine hC _ _ (.inr ⟨id, ver + 1, hid, by simp, ?_⟩) ?_
    · rw [hz, List.getElem?_set_self hlt]; simp
    · rw [List.take_set_of_le hid]

theorem app_all' {k : Nat} {σ : List O} {v : V} {l : List Int} {z : Int} {C : Ct} (h : AllIs k σ v l) (hk : k ≤ σ.length) (hb : (l.length : Int) < 1000000000)
    (hC : ∀ v' σ', AllIs k σ' v' (l ++ [z]) → σ'.take k = σ.take k → C v' σ') : appTo 1 8 v σ C [.i .i64 z] 1 := by
  have := app_all h hk hb hC
  simp only [appK_ss] at this
  exact this.2
theorem AllIs.app {k : Nat} {σ g : List O} {v : V} {l : List Int} (h : AllIs k σ v l) : AllIs k (σ ++ g) v l := by
  rcases h with h | ⟨id, ver, h1, h2, h3⟩
  · exact .inl h
  · exact .inr ⟨id, ver, h1, h2, by rw [List.getElem?_append_left (List.getElem?_eq_some_iff.1 h3).1]; exact h3⟩
theorem AllIs.set {k i : Nat} {σ : List O} {v : V} {l : List Int} {o : O} (h : AllIs k σ v l) (hi : i < k) : AllIs k (σ.set i o) v l := by
  rcases h with h | ⟨id, ver, h1, h2, h3⟩
  · exact .inl h
  · exact .inr ⟨id, ver, h1, h2, by rw [List.getElem?_set_ne (by omega)]; exact h3⟩

theorem take5 {σ' : List O} {a b c d e : O} {g : List O} (h : σ'.take 5 = (a :: b :: c :: d :: e :: g).take 5) : ∃ g', σ' = a :: b :: c :: d :: e :: g' := by
  refine ⟨σ'.drop 5, ?_⟩
  have := List.take_append_drop 5 σ'
  rw [h] at this
  simpa using this.symm

theorem frzO_pure {k n ver : Nat} {σ : List O} {cells : List V} (h : pureL cells = true) : frzO (k + 1) n σ (.row ver cells) = .row ver cells := by
  simp only [frzO]; rw [map_frz h]
theorem frzS_pure4 {a b c d : List V} {g : List O} {k va vb vc vd : Nat} (ha : pureL a = true) (hb : pureL b = true) (hc : pureL c = true) (hd : pureL d = true) :
    frzS (k + 1) 4 (.row va a :: .row vb b :: .row vc c :: .row vd d :: g) = [.row va a, .row vb b, .row vc c, .row vd d] := by
  show [frzO (k + 1) 4 _ _, frzO (k + 1) 4 _ _, frzO (k + 1) 4 _ _, frzO (k + 1) 4 _ _] = _
  rw [frzO_pure ha, frzO_pure hb, frzO_pure hc, frzO_pure hd]

/-- The greatest of several. -/
theorem greatest_ok {l : List Int} {f : Bool} {x : Int} (hl : (l.length : Int) < 1000000000) : FSpec Try.prog 82 [.i .i64 x, sl l f] [] (.i .i64 (l.foldl max x)) [] := by
  refine fn82.spec0 mixed itT_ok ?_
  rw [ic82]
  refine ab_seq_k fun K1 h1 => ?_
  simp
  refine h1 _ _ _ ?_
  clear h1 K1
  refine ab_seq_k fun K2 h2 => ?_
  refine ab_seq_k fun K3 h3 => ?_
  simp
  refine h3 _ _ _ ?_
  clear h3 K3
  refine ab_block_k fun K4 h4 => ?_
  refine ab_loop_k (fun m env σ => ∃ i : Nat, i + m = l.length ∧ env = [(0, .i .i64 ((l.take i).foldl max x)), (7, sl l f), (8, .i .i64 l.length), (9, .i .i64 i)] ∧ σ = []) l.length ⟨0, by omega, by simp, rfl⟩ ?_
  rintro m env σ ⟨i, hi, rfl, rfl⟩ K5 h5
  rw [ic82_0]
  refine ab_seq_k fun K6 h6 => ?_
  simp
  refine h6 _ _ _ ?_
  clear h6 K6
  refine ab_seq_k fun K7 h7 => ?_
  refine ab_cond_of rfl (fun hc => ?_) (fun hc => ?_)
  · have hlt : i < l.length := by simp at hc; omega
    obtain ⟨g1, k1, hmem⟩ := getD_get hlt
    have htake : l.take (i + 1) = l.take i ++ [l.getD i 0] := by rw [List.take_add_one, g1]; rfl
    generalize l.getD i 0 = y at *
    simp
    refine h7 _ _ _ ?_
    refine ab_seq_k fun K8 h8 => ?_
    refine ab_block_k fun K9 h9 => ?_
    refine ab_seq_k fun K10 h10 => ?_
    simp [hlt, g1, k1]
    refine h10 _ _ _ ?_
    simp
    refine h9 _ _ _ ?_
    refine h8 _ _ _ ?_
    simp [wrap64 (x := (i : Int) + 1) (by omega) (by omega)]
    refine h5 _ _ _ (again (m - 1) (by omega) ⟨i + 1, by omega, ?_, rfl⟩)
    simp [htake]
  · have hlt : i = l.length := by simp at hc; omega
    subst hlt
    simp
    refine h4 _ _ _ ?_
    refine h2 _ _ _ ?_
    refine ab_seq_k fun K8 h8 => ?_
    simp
    refine h8 _ _ _ ?_
    simp
    exact fin_of 1 (by simp [rs82])

/-! ### Candidates -/
def cand (lt : Nat → Nat → Bool) (vn : Nat → Int) (a : Nat) (l : List (Int × Int)) : List Int := l.filterMap fun p => if lt a p.1.toNat = true then some (p.2 + vn p.1.toNat) else none

theorem cand_fold {kn : Kn} {sc : Nat → Nat → Int} {lt : Nat → Nat → Bool} {vn : Nat → Int} {a : Nat} : ∀ {j : Nat}, (∀ i, i < j → look kn (a, (a : Int) + 1 + i) = sc a (a + 1 + i)) → 0 ≤ vn (a + 1) →
    (vn (a + 1) :: cand lt vn a (logsUp kn a j)).foldl max 0 = acc sc lt vn a j
  | 0, _, h0 => by simp [cand, logsUp, acc]; omega
  | j + 1, h, h0 => by
    have ih := cand_fold (lt := lt) (vn := vn) (j := j) (fun i hi => h i (by omega)) h0
    have hj := h j (by omega)
    have e : ((a : Int) + 1 + j).toNat = a + 1 + j := by omega
    simp only [acc, logsUp, hj]
    by_cases hp : 0 < sc a (a + 1 + j)
    · rw [if_pos hp]
      by_cases hl : lt a (a + 1 + j) = true
      · rw [if_pos ⟨hp, hl⟩, ← ih]
        simp only [cand, List.filterMap_append, List.filterMap_cons, List.filterMap_nil, e, hl, if_true, ← List.cons_append, List.foldl_append, List.foldl_cons, List.foldl_nil]
      · rw [if_neg (by simp [hl]), ← ih]
        simp only [cand, List.filterMap_append, List.filterMap_cons, List.filterMap_nil, e, hl, if_false, List.append_nil]
        simp
    · rw [if_neg hp, if_neg (by simp [hp]), List.append_nil]
      exact ih

theorem logsUp_mem {kn : Kn} {a : Nat} {p : Int × Int} : ∀ {j : Nat}, p ∈ logsUp kn a j → ∃ i, i < j ∧ p = ((a : Int) + 1 + i, look kn (a, (a : Int) + 1 + i)) ∧ 0 < p.2
  | 0, h => by cases h
  | j + 1, h => by
    simp only [logsUp, List.mem_append] at h
    rcases h with h | h
    · obtain ⟨i, hi, h1, h2⟩ := logsUp_mem h
      exact ⟨i, by omega, h1, h2⟩
    · split at h
      · rename_i hp
        simp only [List.mem_singleton] at h
        subst h
        exact ⟨j, by omega, rfl, hp⟩
      · cases h
theorem logsUp_len {kn : Kn} {a : Nat} : ∀ {j : Nat}, (logsUp kn a j).length ≤ j
  | 0 => by simp [logsUp]
  | j + 1 => by
    have := logsUp_len (kn := kn) (a := a) (j := j)
    simp only [logsUp, List.length_append]
    split <;> simp <;> omega

/-! ### The walk -/
def valP (t b : List Int) (r : Ru) (lt : Nat → Nat → Bool) (i : Nat) : Int := if i ≤ t.length - 1 then val (scN t b r) lt (t.length - 1) i else 0
def hpP (F Sc : V) (out : List Int) (g : List O) : List O := .row 0 [F] :: .row 0 (List.replicate 61 (.i .i64 0)) :: .row 0 (ints out) :: .row 0 [Sc] :: g

def inv62 (t b : List Int) (r : Ru) (lt : Nat → Nat → Bool) (y F : V) (m : Nat) (env : Env) (σ : List O) : Prop :=
  m ≤ t.length - 1 ∧ env = [(0, y), (3, .p 0 0 0), (4, .p 1 0 0), (5, .p 2 0 0), (6, .p 3 0 0), (7, .i .i64 ((m : Int) - 1))] ∧
    σ = hpP F (.f (.func 52) [y] []) (outA 61 (valP t b r lt) m) []

theorem prices_ok {t b : List Int} {ft fb : Bool} {r : Ru} {g : FuncId} {first cap : List V} {lt : Nat → Nat → Bool} (ok : Ok t b r) (hf : pureL first = true) (hcp : pureL cap = true)
    (hg : ∀ i j : Nat, FSpec Try.prog g (first ++ [.agg [.i .i64 i, .i .i64 j]] ++ cap) [] (.b (lt i j)) []) :
    FSpec Try.prog 62 [yardV t ft b fb (knownK t b r), .f (.func g) first cap] [] (.agg (ints (outA 61 (valP t b r lt) 0))) [] := by
  obtain ⟨n2, n61, tv, bl, hr⟩ := ok
  have hyp := pure_yard (t := t) (ft := ft) (b := b) (fb := fb) (kn := knownK t b r)
  have hlong : ∀ σ, FSpec Try.prog 66 [yardV t ft b fb (knownK t b r)] σ (.i .i64 ((t.length : Int) - 1)) σ := fun σ =>
    FSpec.frame (long_ok (cells := [sl t ft, sl b fb, knownV (knownK t b r)]) (off := 0) (t := ints t) (n := t.length) (full := ft) rfl (by omega)) (by simp [yardV] at hyp ⊢) rfl
  have hscale : ∀ (x y : Int) σ, FSpec Try.prog 52 [yardV t ft b fb (knownK t b r), .agg [.i .i64 x, .i .i64 y]] σ (.i .i64 (look (knownK t b r) (x, y))) σ := fun x y σ =>
    FSpec.frame (scale_ok (t := t) (ft := ft) (b := b) (fb := fb) (kn := knownK t b r) (x := x) (y := y)) (by simp) rfl
  have hlogs : ∀ (fr : Int) σ, FSpec Try.prog 67 [yardV t ft b fb (knownK t b r), .i .i64 fr] σ (.f (.func 84) [] [.sp [.i .i64 fr] 0, .sp [yardV t ft b fb (knownK t b r)] 0]) σ := fun fr σ =>
    FSpec.frame (logs_ok (cells := [sl t ft, sl b fb, knownV (knownK t b r)]) (off := 0) (fr := fr) (by simp)) (by simp) (by simp)
  have hit : ∀ {fr : Nat}, fr < t.length → ItT 84 [] [.sp [.i .i64 fr] 0, .sp [yardV t ft b fb (knownK t b r)] 0] ((logsUp (knownK t b r) fr (t.length - 1 - fr)).map (logV fr)) (fun _ => true = true) := fun h => logs_it (by omega) n61 h
  generalize hy : yardV t ft b fb (knownK t b r) = y at *
  have hlook : ∀ a i : Nat, a + 1 + i < t.length → look (knownK t b r) (a, (a : Int) + 1 + i) = scN t b r a (a + 1 + i) := by
    intro a i h
    rw [look_known hr (by omega) (by omega) (by omega)]
    unfold scN
    congr 1
  generalize hkn : knownK t b r = kn at *
  have hvb : ∀ i, 0 ≤ valP t b r lt i ∧ valP t b r lt i ≤ 12960000 := by
    intro i
    unfold valP
    split
    · rename_i h
      obtain ⟨h1, h2⟩ := val_le (sc := scN t b r) (lt := lt) (L := t.length - 1) (M := 216000) (by omega) (fun a c => (scN_bounds hr tv).2) rfl h
      refine ⟨h1, Int.le_trans h2 ?_⟩
      have : ((t.length - 1 - i : Nat) : Int) ≤ 60 := by omega
      omega
    · omega
  have hlast : ∀ i, t.length - 1 ≤ i → valP t b r lt i = 0 := by
    intro i h
    unfold valP
    split
    · rw [show i = t.length - 1 by omega, val_last]
    · rfl
  have hzero : outA 61 (valP t b r lt) (t.length - 1) = List.replicate 61 0 := by
    apply List.ext_getElem?
    intro i
    by_cases hi : i < 61
    · rw [outA_get hi, List.getElem?_replicate, if_pos hi]
      split
      · rw [hlast i (by assumption)]
      · rfl
    · rw [List.getElem?_eq_none (by simp; omega), List.getElem?_eq_none (by simp; omega)]
  have hcells : cellsOf (.f (.func g) first cap) = some [.f (.func g) first cap] := rfl
  refine fn62.spec0 mixed itT_ok ?_
  rw [ic62]
  refine ab_seq_k fun K1 h1 => ?_
  simp [-List.reduceReplicate]
  refine h1 _ _ _ ?_
  clear h1 K1
  refine ab_seq_k fun K2 h2 => ?_
  simp [-List.reduceReplicate]
  refine h2 _ _ _ ?_
  clear h2 K2
  refine ab_seq_k fun K3 h3 => ?_
  simp [-List.reduceReplicate]
  refine h3 _ _ _ ?_
  clear h3 K3
  have e0 : rep 61 [V.i .i64 0] ++ List.replicate (61 - (rep 61 [V.i .i64 0]).length) (V.i .i64 0) = ints (outA 61 (valP t b r lt) (t.length - 1)) := by rw [hzero]; rfl
  rw [e0]
  generalize hz : List.replicate 61 (V.i .i64 0) = zs
  have hzl : zs.length = 61 := by rw [← hz]; rfl
  refine ab_seq_k fun K4 h4 => ?_
  simp
  refine h4 _ _ _ ?_
  clear h4 K4
  refine ab_seq_k fun K5 h5 => ?_
  refine ab_seq_k fun K6 h6 => ?_
  simp
  refine callK_of (hlong _) ?_
  simp [wrap64 (x := (t.length : Int) - 1 - 1) (by omega) (by omega)]
  refine h6 _ _ _ ?_
  clear h6 K6
  refine ab_block_k fun K7 h7 => ?_
  refine ab_loop_k (inv62 t b r lt y (.f (.func g) first cap)) (t.length - 1) ⟨Nat.le_refl _, by simp; omega, by rw [← hz]; rfl⟩ ?_
  rintro m env σ ⟨hm, rfl, rfl⟩ K8 h8
  rw [ic62_1]
  refine ab_seq_k fun K9 h9 => ?_
  refine ab_seq_k fun K10 h10 => ?_
  simp
  refine h10 _ _ _ ?_
  simp only [hpP, hz]
  refine ab_cond_of rfl (fun hc => ?_) (fun hc => ?_)
  · obtain ⟨a, rfl⟩ : ∃ a, m = a + 1 := ⟨m - 1, by simp at hc; omega⟩
    have e1 : ((a + 1 : Nat) : Int) - 1 = a := by omega
    rw [e1]
    have g1 := outA_get (n := 61) (f := valP t b r lt) (lo := a + 1) (i := a + 1) (by omega)
    simp only [Nat.le_refl, if_true] at g1
    have e2 : ((a : Int) + 1).toNat = a + 1 := by omega
    have e3 : (a : Int) + 1 < 61 := by omega
    have e4 : (0 : Int) ≤ (a : Int) + 1 := by omega
    have e5 : (a : Int) < 61 := by omega
    simp
    refine h9 _ _ _ ?_
    refine ab_seq_k fun K11 h11 => ?_
    refine ab_block_k fun K12 h12 => ?_
    refine ab_seq_k fun K13 h13 => ?_
    obtain ⟨hh, hel⟩ := List.getElem?_eq_some_iff.1 g1
    simp [e2, e3, e4, g1, hel, wrap64 (x := (a : Int) + 1) (by omega) (by omega)]
    refine h13 _ _ _ ?_
    clear h13 K13
    refine ab_seq_k fun K14 h14 => ?_
    refine ab_seq_k fun K15 h15 => ?_
    simp
    refine callK_of (hlogs _ _) ?_
    simp
    refine h15 _ _ _ ?_
    clear h15 K15
    refine ab_block_k fun K16 h16 => ?_
    generalize hout : outA 61 (valP t b r lt) (a + 1) = out at *
    have hol : out.length = 61 := by rw [← hout]; simp
    have hg2 : ∀ i, a < i → i < t.length → out[i]? = some (valP t b r lt i) := by
      intro i h1 h2
      rw [← hout, outA_get (by omega), if_pos (by omega)]
    refine ⟨_, _, hit (fr := a) (by omega), fun i σ => ∃ gg v, σ = hpP (.f (.func g) first cap) (.f (.func 52) [y] []) out (.row 0 [v] :: gg) ∧
      AllIs 5 σ v (valP t b r lt (a + 1) :: cand lt (valP t b r lt) a ((logsUp kn a (t.length - 1 - a)).take i)), fun _ _ _ => rfl, ?_, ?_, ?_⟩
    · exact ⟨[], sl [valP t b r lt (a + 1)] true, by simp only [hpP, hz]; rfl, .inl (by simp [cand])⟩
    · rintro i x σ' hx ⟨gg, v, rfl, hall⟩
      rw [List.getElem?_map, Option.map_eq_some_iff] at hx
      obtain ⟨p, hp, rfl⟩ := hx
      have htake : (logsUp kn a (t.length - 1 - a)).take (i + 1) = (logsUp kn a (t.length - 1 - a)).take i ++ [p] := by rw [List.take_add_one, hp]; rfl
      obtain ⟨i', hi', hpe, hpos⟩ := logsUp_mem (List.mem_of_getElem? hp)
      have hlk := hlook a i' (by omega)
      obtain ⟨to, sv⟩ := p
      simp only [Prod.mk.injEq] at hpe
      obtain ⟨hto, hsv⟩ := hpe
      simp only at hpos
      have hton : to = ((a + 1 + i' : Nat) : Int) := by omega
      have htoN : to.toNat = a + 1 + i' := by omega
      have hout2 := hg2 (a + 1 + i') (by omega) (by omega)
      have hlen : (valP t b r lt (a + 1) :: cand lt (valP t b r lt) a ((logsUp kn a (t.length - 1 - a)).take i)).length < 100 := by
        have h1 := logsUp_len (kn := kn) (a := a) (j := t.length - 1 - a)
        have h2 : (cand lt (valP t b r lt) a ((logsUp kn a (t.length - 1 - a)).take i)).length ≤ ((logsUp kn a (t.length - 1 - a)).take i).length := List.length_filterMap_le _ _
        simp only [List.length_cons, List.length_take] at *
        omega
      have hsb := scN_bounds (b := b) hr tv (i := a) (j := a + 1 + i')
      have hvv := hvb (a + 1 + i')
      refine ⟨rfl, ?_⟩
      simp only [hpP, hz] at hall ⊢
      generalize hKR : roundK _ _ _ = KR
      have hfin : ∀ env σ2, (∃ gg v, σ2 = .row 0 [.f (.func g) first cap] :: .row 0 zs :: .row 0 (ints out) :: .row 0 [.f (.func 52) [y] []] :: .row 0 [v] :: gg ∧ AllIs 5 σ2 v (valP t b r lt (a + 1) :: cand lt (valP t b r lt) a ((logsUp kn a (t.length - 1 - a)).take (i + 1)))) → KR (some 0) env σ2 := by
        intro env σ2 h
        rw [← hKR]
        exact ⟨rfl, .inl h⟩
      clear hKR
      simp [logV]
      rw [ic62_0]
      refine ab_block_k fun K19 h19 => ?_
      refine ab_seq_k fun K20 h20 => ?_
      simp
      refine callK_of (FSpec.frame (by have := hg a (a + 1 + i'); rw [← hton] at this; simpa using this) (by rw [pureL_all]; intro v hv; simp at hv; rcases hv with h | rfl | h; exact pureL_all.1 hf v h; rfl; exact pureL_all.1 hcp v h) rfl) ?_
      simp
      refine h20 _ _ _ ?_
      clear h20 K20
      refine ab_cond_of rfl (fun hc => ?_) (fun hc => ?_)
      · have hl : look kn (a, to) = sv := by rw [hsv, hto]
        have q1 : to < 61 := by omega
        have q2 : 0 ≤ to := by omega
        obtain ⟨hh2, hel2⟩ := List.getElem?_eq_some_iff.1 hout2
        have hsvb : 0 ≤ sv ∧ sv ≤ 216000 := by rw [hsv, hlk]; exact hsb
        simp
        refine callK_of (hscale _ _ _) ?_
        rw [hl]
        simp [q1, q2, htoN, hout2, hel2, hol, wrap64 (x := sv + valP t b r lt (a + 1 + i')) (by omega) (by omega)]
        refine app_all' (k := 5) (AllIs.app hall) (by simp) (by omega) ?_
        intro v' σ' hall' htk
        obtain ⟨g', rfl⟩ := take5 htk
        have hone : cellsOf v' = some [v'] := by
          rcases hall' with rfl | ⟨_, _, _, rfl, _⟩ <;> rfl
        simp [hone]
        refine h19 _ _ _ (hfin _ _ ⟨g', v', rfl, ?_⟩)
        have := hall'.set (i := 4) (o := .row 0 [v']) (by omega)
        simp only [List.set_cons_succ, List.set_cons_zero] at this
        rw [htake]
        have ec : cand lt (valP t b r lt) a ((logsUp kn a (t.length - 1 - a)).take i ++ [(to, sv)]) = cand lt (valP t b r lt) a ((logsUp kn a (t.length - 1 - a)).take i) ++ [sv + valP t b r lt (a + 1 + i')] := by
          simp only [cand, List.filterMap_append, List.filterMap_cons, List.filterMap_nil, htoN, hc, if_true]
        rw [ec]
        exact this
      · simp
        refine h19 _ _ _ ?_
        refine hfin _ _ ⟨_, v, rfl, ?_⟩
        rw [htake]
        have ec : cand lt (valP t b r lt) a ((logsUp kn a (t.length - 1 - a)).take i ++ [(to, sv)]) = cand lt (valP t b r lt) a ((logsUp kn a (t.length - 1 - a)).take i) := by
          simp [cand, htoN, hc]
        rw [ec]
        exact AllIs.app hall
    · rintro σ' ⟨gg, v, rfl, hall⟩
      rw [List.length_map, List.take_length] at hall
      have hfold := cand_fold (kn := kn) (sc := scN t b r) (lt := lt) (vn := valP t b r lt) (a := a) (j := t.length - 1 - a) (fun i hi => hlook a i (by omega)) (hvb _).1
      have hacc : acc (scN t b r) lt (valP t b r lt) a (t.length - 1 - a) = valP t b r lt a := by
        have e := val_rec (sc := scN t b r) (lt := lt) (L := t.length - 1) (i := a) (by omega)
        have e2 : valP t b r lt a = val (scN t b r) lt (t.length - 1) a := by unfold valP; rw [if_pos (by omega)]
        rw [e2, e]
        have hv : ∀ m, m ≤ t.length - 1 → valP t b r lt m = val (scN t b r) lt (t.length - 1) m := by intro m h; unfold valP; rw [if_pos h]
        exact acc_congr (hv _ (by omega)) (fun m h1 h2 => hv m (by omega))
      rw [hacc] at hfold
      have hlen : (valP t b r lt (a + 1) :: cand lt (valP t b r lt) a (logsUp kn a (t.length - 1 - a))).length < 100 := by
        have h1 := logsUp_len (kn := kn) (a := a) (j := t.length - 1 - a)
        have h2 : (cand lt (valP t b r lt) a (logsUp kn a (t.length - 1 - a))).length ≤ (logsUp kn a (t.length - 1 - a)).length := List.length_filterMap_le _ _
        simp only [List.length_cons] at *
        omega
      generalize hL : valP t b r lt (a + 1) :: cand lt (valP t b r lt) a (logsUp kn a (t.length - 1 - a)) = L at *
      simp only [hpP, hz] at hall ⊢
      refine h16 _ _ _ ?_
      refine h14 _ _ _ ?_
      have hgr : FSpec Try.prog 82 [.i .i64 0, v] (.row 0 [.f (.func g) first cap] :: .row 0 zs :: .row 0 (ints out) :: .row 0 [.f (.func 52) [y] []] :: .row 0 [v] :: gg) (.i .i64 (valP t b r lt a)) (.row 0 [.f (.func g) first cap] :: .row 0 zs :: .row 0 (ints out) :: .row 0 [.f (.func 52) [y] []] :: .row 0 [v] :: gg) := by
        refine FSpec.frozen 2 (v := .i .i64 (valP t b r lt a)) ?_ rfl
        rcases hall with rfl | ⟨id, ver, h1, rfl, h3⟩
        · have := greatest_ok (l := L) (f := true) (x := 0) (by omega)
          rw [hfold] at this
          simpa using this
        · have := greatest_ok (l := L) (f := false) (x := 0) (by omega)
          rw [hfold] at this
          rw [List.map_cons, List.map_cons, List.map_nil, frz_ints h3 (Nat.zero_le _)]
          simpa using this
      simp
      refine callK_of hgr ?_
      simp [e5, hol, show a < 61 by omega]
      refine h12 _ _ _ ?_
      refine h11 _ _ _ ?_
      simp [wrap64 (x := (a : Int) - 1) (by omega) (by omega)]
      refine h8 _ _ _ (againF a 2 4 (by omega) (by omega) (by simp) ⟨by omega, ?_, ?_⟩)
      · rw [keepO_some, keep_frzE]
        simp [frzE, hyp]
      · rw [frzS_pure4 (by simp [hf, hcp]) (by rw [← hz]; rfl) (by rw [ints_set]; simp) (by simp [hyp])]
        rw [ints_set, ← hout, outA_set (by omega)]
        simp only [hpP, hz]
  · have hm0 : m = 0 := by simp at hc; omega
    subst hm0
    simp
    refine h7 _ _ _ ?_
    refine h5 _ _ _ ?_
    refine ab_seq_k fun K21 h21 => ?_
    simp
    have e9 : List.take 61 (ints (outA 61 (valP t b r lt) 0)) ++ List.drop 61 zs = ints (outA 61 (valP t b r lt) 0) := by
      rw [List.take_of_length_le (by simp), List.drop_eq_nil_of_le (by omega), List.append_nil]
    refine ⟨by omega, ?_⟩
    rw [e9]
    refine h21 _ _ _ ?_
    simp
    refine fin_of 2 ?_
    have e10 : List.take 61 (ints (outA 61 (valP t b r lt) 0)) = ints (outA 61 (valP t b r lt) 0) := List.take_of_length_le (by simp)
    simp [rs62, e10]
end Go.Ab
