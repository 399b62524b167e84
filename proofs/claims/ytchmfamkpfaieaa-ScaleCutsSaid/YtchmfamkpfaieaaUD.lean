/- The reference's Rest: what best cuttings scale from each place on. -/
import Derived.Test.YtchmfamkpfaieaaUC
set_option linter.unusedVariables false
set_option linter.unusedSimpArgs false
set_option maxHeartbeats 4000000
namespace Go.Ab
open Go Go.Proofs

theorem refLets {l : Lt2} {x y : Int} : FSpec Try.prog 83 [.agg [.i .i64 l.over, .i .i64 l.at_], .i .i64 x, .i .i64 y] [] (.b (l.lets x y)) [] := by
  refine fn83.spec0 mixed noIt_ok ?_
  rw [ic83]
  refine ab_seq_k fun K1 h1 => ?_
  simp
  refine h1 _ _ _ ?_
  clear h1 K1
  refine ab_seq_k fun K2 h2 => ?_
  have c1 : ∀ {env σ v}, get env 6 = .b v → v = l.lets x y → K2 (some 0) env σ := by
    intro env σ v e1 hv
    refine h2 _ _ _ ?_
    simp
    exact fin_of 1 (by simp [rs83, e1, hv])
  clear h2
  simp
  repeat' (refine opG_split (fun c => ?_) (fun c => ?_) <;> simp [c])
  all_goals
    apply c1
    · rfl
    first | (simp_all [Lt2.lets]; done) | (simp_all [Lt2.lets]; omega) | (rw [Bool.eq_iff_iff]; simp_all [Lt2.lets]; omega)

/-- Valid stems and rules. -/
structure Ok (t b : List Int) (r : Ru) : Prop where
  n2 : 2 ≤ t.length
  n61 : t.length ≤ 61
  tv : ∀ x ∈ t, 0 ≤ x ∧ x ≤ 60
  bl : (b.length : Int) < 1000000000
  r : RuB r

def hpR (t b : List Int) (ft fb : Bool) (r : Ru) (l : Lt2) (out : List Int) : List O :=
  [.row 0 [sl t ft, sl b fb], .row 0 r.cells, .row 0 [.i .i64 l.over, .i .i64 l.at_], .row 0 (ints out)]

def inv64_1 (t b : List Int) (ft fb : Bool) (r : Ru) (l : Lt2) (m : Nat) (env : Env) (σ : List O) : Prop :=
  m ≤ t.length - 1 ∧ env = [(3, .p 0 0 0), (4, .p 1 0 0), (5, .p 2 0 0), (7, .s 3 0 0 t.length 1), (8, .i .i64 ((m : Int) - 1))] ∧ σ = hpR t b ft fb r l (outA t.length (restN t b r l) m)
def inv64_0 (t b : List Int) (ft fb : Bool) (r : Ru) (l : Lt2) (at_ : Nat) (m : Nat) (env : Env) (σ : List O) : Prop :=
  ∃ j : Nat, j + m = t.length - 1 - at_ ∧ env = [(3, .p 0 0 0), (4, .p 1 0 0), (5, .p 2 0 0), (7, .s 3 0 0 t.length 1), (8, .i .i64 at_), (9, .i .i64 ((at_ : Int) + 1 + j))] ∧
    σ = hpR t b ft fb r l ((outA t.length (restN t b r l) (at_ + 1)).set at_ (acc (scN t b r) l.letsN (restN t b r l) at_ j))

theorem ints_set {l : List Int} {i : Nat} {x : Int} : (ints l).set i (.i .i64 x) = ints (l.set i x) := by simp [ints, List.map_set]

theorem frz_ints {k n id ver : Nat} {σ : List O} {l : List Int} (h : σ[id]? = some (.row ver (ints l))) (hn : n ≤ id) : frz (k + 2) n σ (.s id ver 0 l.length 1) = .ss (ints l) l.length false := by
  rw [frz]
  simp only [V.pure, Bool.false_eq_true, if_false, Nat.not_lt.2 hn, h]
  rw [if_pos ⟨trivial, by simp⟩]
  congr 1
  have e : List.take (l.length * 1) (List.drop 0 (ints l)) = ints l := by rw [Nat.mul_one, List.drop_zero]; exact List.take_of_length_le (by simp)
  rw [e, map_frz pure_ints]

theorem refRest {t b : List Int} {ft fb : Bool} {r : Ru} {l : Lt2} (ok : Ok t b r) :
    FSpec Try.prog 64 [.agg [sl t ft, sl b fb], .agg r.cells, .agg [.i .i64 l.over, .i .i64 l.at_]] [] (.ss (ints ((List.range t.length).map (restN t b r l))) t.length false) [] := by
  obtain ⟨n2, n61, tv, bl, hr⟩ := ok
  have h7 : List.take 7 r.cells = r.cells := rfl
  have hrest0 : restN t b r l (t.length - 1) = 0 := val_last
  refine fn64.spec0 mixed noIt_ok ?_
  rw [ic64]
  refine ab_seq_k fun K1 h1 => ?_
  simp
  refine h1 _ _ _ ?_
  clear h1 K1
  refine ab_seq_k fun K2 h2 => ?_
  have hrep : rep t.length [V.i .i64 0] = ints (List.replicate t.length 0) := by simp [rep, ints, List.flatten_replicate_singleton]
  simp
  refine ⟨by omega, by omega, h2 _ _ _ ?_⟩
  clear h2 K2
  rw [hrep, ← outA_last (f := restN t b r l) (by omega) hrest0]
  refine ab_seq_k fun K3 h3 => ?_
  refine ab_seq_k fun K4 h4 => ?_
  simp
  refine callK_of (FSpec.frame (refLong (x := sl b fb) (by omega)) (by simp) rfl) ?_
  simp [wrap64 (x := (t.length : Int) - 1 - 1) (by omega) (by omega)]
  refine h4 _ _ _ ?_
  clear h4 K4
  refine ab_block_k fun K5 h5 => ?_
  refine ab_loop_k (inv64_1 t b ft fb r l) (t.length - 1) ⟨Nat.le_refl _, by simp; omega, rfl⟩ ?_
  rintro m env σ ⟨hm, rfl, rfl⟩ K6 h6
  rw [ic64_1]
  refine ab_seq_k fun K7 h7' => ?_
  refine ab_seq_k fun K8 h8 => ?_
  simp
  refine h8 _ _ _ ?_
  refine ab_cond_of rfl (fun hc => ?_) (fun hc => ?_)
  · obtain ⟨a, rfl⟩ : ∃ a, m = a + 1 := ⟨m - 1, by simp at hc; omega⟩
    have e1 : ((a + 1 : Nat) : Int) - 1 = a := by omega
    rw [e1]
    have g1 := outA_get (n := t.length) (f := restN t b r l) (lo := a + 1) (i := a + 1) (by omega)
    simp only [Nat.le_refl, if_true] at g1
    simp
    refine h7' _ _ _ ?_
    refine ab_seq_k fun K9 h9 => ?_
    refine ab_block_k fun K10 h10 => ?_
    refine ab_seq_k fun K11 h11 => ?_
    have e2 : ((a : Int) + 1).toNat = a + 1 := by omega
    have e3 : (a : Int) + 1 < t.length := by omega
    have e4 : (0 : Int) ≤ (a : Int) + 1 := by omega
    have e5 : a < t.length := by omega
    have e6 : (a : Int) < t.length := by omega
    simp [hpR, e2, e3, e4, e5, e6, g1, wrap64 (x := (a : Int) + 1) (by omega) (by omega)]
    refine h11 _ _ _ ?_
    clear h11 K11
    rw [ints_set]
    refine ab_seq_k fun K12 h12 => ?_
    simp [wrap64 (x := (a : Int) + 1) (by omega) (by omega)]
    refine h12 _ _ _ ?_
    clear h12 K12
    refine ab_block_k fun K13 h13 => ?_
    refine ab_loop_k (inv64_0 t b ft fb r l a) (t.length - 1 - a) ⟨0, by omega, by simp, by simp [hpR, acc]⟩ ?_
    rintro m env σ ⟨j, hj, rfl, rfl⟩ K14 h14
    rw [ic64_0]
    refine ab_seq_k fun K15 h15 => ?_
    refine ab_seq_k fun K16 h16 => ?_
    simp [hpR]
    refine callK_of (FSpec.frame (refLong (x := sl b fb) (by omega)) (by simp) rfl) ?_
    simp
    refine h16 _ _ _ ?_
    refine ab_cond_of rfl (fun hc => ?_) (fun hc => ?_)
    · have hjn : a + 1 + j < t.length := by simp at hc; omega
      simp
      refine h15 _ _ _ ?_
      clear h15 K15 h16 K16
      refine ab_seq_k fun K17 h17 => ?_
      have next : ∀ {env σ}, keep env [3, 4, 5, 7, 8, 9] = [(3, .p 0 0 0), (4, .p 1 0 0), (5, .p 2 0 0), (7, .s 3 0 0 t.length 1), (8, .i .i64 a), (9, .i .i64 ((a : Int) + 1 + j))] →
          σ = hpR t b ft fb r l ((outA t.length (restN t b r l) (a + 1)).set a (acc (scN t b r) l.letsN (restN t b r l) a (j + 1))) → K17 (some 0) env σ := by
        rintro env σ he rfl
        simp at he
        obtain ⟨q1, q2, q3, q4, q5, q6⟩ := he
        refine h17 _ _ _ ?_
        simp [q6, wrap64 (x := (a : Int) + 1 + j + 1) (by omega) (by omega)]
        exact h14 _ _ _ (again (m - 1) (by omega) ⟨j + 1, by omega, by simp [q1, q2, q3, q4, q5]; omega, rfl⟩)
      clear h17 h14
      refine ab_block_k fun K18 h18 => ?_
      refine ab_seq_k fun K19 h19 => ?_
      simp [h7]
      refine callK_of (FSpec.frame (refScale (t := t) (b := b) (ft := ft) (fb := fb) (r := r) (x := a) (y := (a : Int) + 1 + j) n61 tv bl hr (by omega) (by omega) (by omega)) (by simp) rfl) ?_
      have hsc : scaleP t b r a ((a : Int) + 1 + j) = scN t b r a (a + 1 + j) := by
        unfold scN
        congr 1
      rw [hsc]
      simp
      refine h19 _ _ _ ?_
      clear h19 K19
      refine ab_seq_k fun K20 h20 => ?_
      obtain ⟨s1, s2⟩ := scN_bounds (b := b) hr tv (i := a) (j := a + 1 + j)
      have hlets : l.lets a ((a : Int) + 1 + j) = l.letsN a (a + 1 + j) := by
        unfold Lt2.letsN
        congr 1
      have hacc : acc (scN t b r) l.letsN (restN t b r l) a (j + 1) = if 0 < scN t b r a (a + 1 + j) ∧ l.letsN a (a + 1 + j) = true then max (acc (scN t b r) l.letsN (restN t b r l) a j) (scN t b r a (a + 1 + j) + restN t b r l (a + 1 + j)) else acc (scN t b r) l.letsN (restN t b r l) a j := rfl
      have hab := acc_le (sc := scN t b r) (lt := l.letsN) (vn := restN t b r l) (i := a) (L := t.length - 1) (M := 216000) (by omega) (fun a c => (scN_bounds hr tv).2) (fun m h1 h2 => val_le (by omega) (fun a c => (scN_bounds hr tv).2) rfl h2) (j := j) (by omega) (by omega)
      have hto := restN_le (b := b) (l := l) hr tv n61 (i := a + 1 + j) (by omega)
      have hgt := outA_get (n := t.length) (f := restN t b r l) (lo := a + 1) (i := a + 1 + j) hjn
      rw [if_pos (by omega)] at hgt
      generalize hsv : scN t b r a (a + 1 + j) = sv at *
      generalize hrv : restN t b r l (a + 1 + j) = rv at *
      generalize hav : acc (scN t b r) l.letsN (restN t b r l) a j = av at *
      have hskip : acc (scN t b r) l.letsN (restN t b r l) a (j + 1) = av → ∀ {env}, keep env [3, 4, 5, 7, 8, 9] = [(3, .p 0 0 0), (4, .p 1 0 0), (5, .p 2 0 0), (7, .s 3 0 0 t.length 1), (8, .i .i64 a), (9, .i .i64 ((a : Int) + 1 + j))] → get env 50 = .b false → K20 (some 0) env (hpR t b ft fb r l ((outA t.length (restN t b r l) (a + 1)).set a av)) := by
        intro he env hk h50
        refine h20 _ _ _ ?_
        refine ab_cond_of h50 (fun hc => by cases hc) (fun _ => ?_)
        simp
        exact h18 _ _ _ (next hk (by rw [he]))
      by_cases hp : 0 < sv
      · simp [hp]
        refine callK_of (FSpec.frame (refLets (l := l) (x := a) (y := (a : Int) + 1 + j)) (by simp) rfl) ?_
        rw [hlets]
        cases hlt : l.letsN a (a + 1 + j) with
        | false =>
          simp
          exact hskip (by rw [hacc, if_neg (by rw [hlt]; simp)]) (by simp) (by simp)
        | true =>
          simp
          refine h20 _ _ _ ?_
          refine ab_cond_of rfl (fun _ => ?_) (fun hc => by cases hc)
          have e2 : ((a : Int) + 1 + j).toNat = a + 1 + j := by omega
          have e3 : (a : Int) + 1 + j < t.length := by omega
          have e4 : (0 : Int) ≤ (a : Int) + 1 + j := by omega
          have e5 : a < t.length := by omega
          have e6 : (a : Int) < t.length := by omega
          have e7 : ¬ a = a + 1 + j := by omega
          have hself : ((outA t.length (restN t b r l) (a + 1)).set a av)[a]? = some av := List.getElem?_set_self (by simpa using e5)
          have hne : ((outA t.length (restN t b r l) (a + 1)).set a av)[a + 1 + j]? = some rv := by rw [List.getElem?_set_ne e7, hgt]
          simp only [hsv, hav] at *
          obtain ⟨hh, hel⟩ := List.getElem?_eq_some_iff.1 hgt
          simp [e2, e3, e4, e5, e6, e7, hself, hne, hjn, hel, wrap64 (x := sv + rv) (by omega) (by omega)]
          rw [ints_set, List.set_set]
          exact h18 _ _ _ (next (by simp) (by rw [hacc, if_pos ⟨hp, hlt⟩]; simp [hpR]))
      · simp [hp]
        exact hskip (by rw [hacc, if_neg (by simp [hp])]) (by simp) (by simp)
    · have hjn : j = t.length - 1 - a := by simp at hc; omega
      subst hjn
      simp
      refine h13 _ _ _ ?_
      refine h10 _ _ _ ?_
      refine h9 _ _ _ ?_
      simp [wrap64 (x := (a : Int) - 1) (by omega) (by omega)]
      refine h6 _ _ _ (again a (by omega) ⟨by omega, by simp, ?_⟩)
      have hv : acc (scN t b r) l.letsN (restN t b r l) a (t.length - 1 - a) = restN t b r l a := (val_rec (by omega)).symm
      rw [hv, outA_set (by omega)]
      rfl
  · have hm0 : m = 0 := by simp at hc; omega
    subst hm0
    simp
    refine h5 _ _ _ ?_
    refine h3 _ _ _ ?_
    refine ab_seq_k fun K21 h21 => ?_
    simp
    refine h21 _ _ _ ?_
    simp
    refine fin_of 2 ?_
    simp only [outA_zero]
    refine ⟨?_, .inr trivial⟩
    have := frz_ints (k := 0) (n := 0) (id := 3) (ver := 0) (σ := hpR t b ft fb r l ((List.range t.length).map (restN t b r l))) rfl (Nat.zero_le _)
    simpa using this
end Go.Ab
