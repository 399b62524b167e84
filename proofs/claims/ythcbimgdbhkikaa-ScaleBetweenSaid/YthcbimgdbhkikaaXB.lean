/- between: the walk. -/
import Derived.Test.YthcbimgdbhkikaaXA
set_option linter.unusedVariables false
set_option linter.unusedSimpArgs false
set_option maxHeartbeats 4000000
namespace Go.Ab
open Go Go.Proofs

/-! ### Operations whose turn is drawn across others that change the heap -/
section
variable {P : Program} {Y : Yield} {n0 : Nat}
def drU (P : Program) (Y : Yield) (n0 : Nat) (s : IS) (us : List Nat) (r : List (IS × List Nat)) (j : Nat) (pend : List (IS × Env × V × List Nat)) (K : Kt) (md : Md) (env : Env) (σ : List O) (md' : Md) (env' : Env) (σ' : List O) : Prop :=
  md' = md ∧ (s.loud = false → σ' = σ) ∧ recheck P Y n0 j pend md σ' ∧ abDs P Y n0 r (j + 1) (if us.isEmpty then pend else (s, env, (match s.dst with | some d => get env' d | none => .u), us) :: pend) K md' env' σ'
theorem abDs_consU {s : IS} {us : List Nat} {r : List (IS × List Nat)} {j : Nat} {pend : List (IS × Env × V × List Nat)} {K : Kt} {md : Md} {env : Env} {σ : List O} : abDs P Y n0 ((s, us) :: r) j pend K md env σ = abS P Y n0 s (drU P Y n0 s us r j pend K md env σ) md env σ := (rfl)
def rcK (md : Md) (env : Env) (d : Option Nat) (v : V) (σ : List O) (md' : Md) (env' : Env) (σ' : List O) : Prop := md' = md ∧ env' = put env d v ∧ σ' = σ
theorem recheck_cons {s : IS} {env : Env} {v : V} {us : List Nat} {r : List (IS × Env × V × List Nat)} {j : Nat} {md : Md} {σ : List O} :
    recheck P Y n0 j ((s, env, v, us) :: r) md σ = ((if us.contains j then abS P Y n0 s (rcK md env s.dst v σ) md env σ else True) ∧ recheck P Y n0 j r md σ) := (rfl)
theorem recheck_nil {j : Nat} {md : Md} {σ : List O} : recheck P Y n0 j [] md σ = True := (rfl)
end

/-- The heap of between. -/
structure HpW (σ : List O) (yo : V) (P A B : List Int) (id : Nat) (a : Int) : Prop where
  h0 : σ[0]? = some (.row 0 [yo])
  h1 : σ[1]? = some (.row 0 [.i .i64 0, .i .i64 0])
  h2 : σ[2]? = some (.row 0 (ints P))
  h3 : σ[3]? = some (.row 0 (ints A))
  h4 : σ[4]? = some (.row 0 (ints B))
  hi : σ[id]? = some (.row 0 [.i .i64 a])
  i5 : 5 ≤ id
  lB : B.length = 61
theorem HpW.app {σ g : List O} {yo P A B id a} (h : HpW σ yo P A B id a) : HpW (σ ++ g) yo P A B id a := ⟨app_get h.h0, app_get h.h1, app_get h.h2, app_get h.h3, app_get h.h4, app_get h.hi, h.i5, h.lB⟩
theorem HpW.len {σ : List O} {yo P A B id a} (h : HpW σ yo P A B id a) : id < σ.length := (List.getElem?_eq_some_iff.1 h.hi).1
theorem HpW.setA {σ : List O} {yo P A B id a} (h : HpW σ yo P A B id a) (A' : List Int) : HpW (σ.set 3 (.row 0 (ints A'))) yo P A' B id a := by
  have := h.i5
  have := h.len
  exact ⟨by rw [List.getElem?_set_ne (by omega)]; exact h.h0, by rw [List.getElem?_set_ne (by omega)]; exact h.h1, by rw [List.getElem?_set_ne (by omega)]; exact h.h2, List.getElem?_set_self (by omega),
    by rw [List.getElem?_set_ne (by omega)]; exact h.h4, by rw [List.getElem?_set_ne (by omega)]; exact h.hi, h.i5, h.lB⟩
theorem HpW.setB {σ : List O} {yo P A B id a} (h : HpW σ yo P A B id a) (B' : List Int) (hl : B'.length = 61) : HpW (σ.set 4 (.row 0 (ints B'))) yo P A B' id a := by
  have := h.i5
  have := h.len
  exact ⟨by rw [List.getElem?_set_ne (by omega)]; exact h.h0, by rw [List.getElem?_set_ne (by omega)]; exact h.h1, by rw [List.getElem?_set_ne (by omega)]; exact h.h2, by rw [List.getElem?_set_ne (by omega)]; exact h.h3,
    List.getElem?_set_self (by omega), by rw [List.getElem?_set_ne (by omega)]; exact h.hi, h.i5, hl⟩
theorem HpW.fresh {σ : List O} {yo P A B id a} (h : HpW σ yo P A B id a) (a' : Int) : HpW (σ ++ [.row 0 [.i .i64 a']]) yo P A B σ.length a' := by
  have := h.len
  have := h.i5
  have h' := h.app (g := [.row 0 [.i .i64 a']])
  exact ⟨h'.h0, h'.h1, h'.h2, h'.h3, h'.h4, by simp, by omega, h.lB⟩

/-- What an append to a slice of pairs leaves of it. -/
theorem HpW.keep {σ σ' : List O} {yo P A B id a} {v : V} {l : List (Int × Int)} (h : HpW σ yo P A B id a) (hv : AllC σ v l) (hk : Keeps v σ σ') : HpW σ' yo P A B id a := by
  have := h.len
  have := h.i5
  obtain ⟨k1, k2, k3, k4⟩ := hk
  refine ⟨k3 _ _ h.h0, by rw [k2 1 (by omega) (by omega)]; exact h.h1, by rw [k2 2 (by omega) (by omega)]; exact h.h2, by rw [k2 3 (by omega) (by omega)]; exact h.h3, ?_, k3 _ _ h.hi, h.i5, h.lB⟩
  rw [k4 4 (by omega) (fun ver off n es hE => ?_)]
  · exact h.h4
  · rcases hv with ⟨-, h'⟩ | ⟨sid, sver, -, h', hs, -⟩
    · rw [hE] at h'; cases h'
    · rw [hE] at h'
      cases h'
      rw [h.h4] at hs
      simp only [Option.some.injEq, O.row.injEq] at hs
      have e := congrArg List.length hs.2
      have hlB := h.lB
      simp at e
      omega

theorem HpW.setE {σ : List O} {yo P A B id a} (h : HpW σ yo P A B id a) {ie : Nat} {x : O} (h5 : 5 ≤ ie) (hne : ie ≠ id) : HpW (σ.set ie x) yo P A B id a :=
  ⟨by rw [List.getElem?_set_ne (by omega)]; exact h.h0, by rw [List.getElem?_set_ne (by omega)]; exact h.h1, by rw [List.getElem?_set_ne (by omega)]; exact h.h2, by rw [List.getElem?_set_ne (by omega)]; exact h.h3,
    by rw [List.getElem?_set_ne (by omega)]; exact h.h4, by rw [List.getElem?_set_ne (by omega)]; exact h.hi, h.i5, h.lB⟩

def btw (t b : List Int) (r o : Ru) (i : Nat) : Int × Int := bval (Pr (scN t b r) (t.length - 1)) (scN t b r) (scN t b o) (t.length - 1) i
def btwP (t b : List Int) (r o : Ru) (i : Nat) : Int × Int := if i ≤ t.length - 1 then btw t b r o i else (0, 0)

theorem between_ok {t b : List Int} {ft fb : Bool} {r o : Ru} (ok : Ok t b r) (ok2 : Ok t b o) :
    FSpec Try.prog 76 [yardV t ft b fb (knownK t b r), yardV t ft b fb (knownK t b o)] [] (.agg [.i .i64 (btw t b r o 0).1, .i .i64 (btw t b r o 0).2]) [] := by
  have okk := ok
  obtain ⟨n2, n61, tv, bl, hr⟩ := ok
  have hro := ok2.r
  have hyp := pure_yard (t := t) (ft := ft) (b := b) (fb := fb) (kn := knownK t b r)
  have hyo := pure_yard (t := t) (ft := ft) (b := b) (fb := fb) (kn := knownK t b o)
  have hlong : ∀ σ, FSpec Try.prog 66 [yardV t ft b fb (knownK t b r)] σ (.i .i64 ((t.length : Int) - 1)) σ := fun σ =>
    FSpec.frame (long_ok (cells := [sl t ft, sl b fb, knownV (knownK t b r)]) (off := 0) (t := ints t) (n := t.length) (full := ft) rfl (by omega)) (by simp [yardV] at hyp ⊢) rfl
  have hlogs : ∀ (fr : Int) σ, FSpec Try.prog 67 [yardV t ft b fb (knownK t b r), .i .i64 fr] σ (.f (.func 84) [] [.sp [.i .i64 fr] 0, .sp [yardV t ft b fb (knownK t b r)] 0]) σ := fun fr σ =>
    FSpec.frame (logs_ok (cells := [sl t ft, sl b fb, knownV (knownK t b r)]) (off := 0) (fr := fr) (by simp)) (by simp) (by simp)
  have hscale : ∀ (x y : Int) σ, FSpec Try.prog 52 [yardV t ft b fb (knownK t b o), .agg [.i .i64 x, .i .i64 y]] σ (.i .i64 (look (knownK t b o) (x, y))) σ := fun x y σ =>
    FSpec.frame (scale_ok (t := t) (ft := ft) (b := b) (fb := fb) (kn := knownK t b o) (x := x) (y := y)) (by simp) rfl
  have hit : ∀ {fr : Nat}, fr < t.length → ItT 84 [] [.sp [.i .i64 fr] 0, .sp [yardV t ft b fb (knownK t b r)] 0] ((logsUp (knownK t b r) fr (t.length - 1 - fr)).map (logV fr)) (fun _ => true = true) := fun h => logs_it (by omega) n61 h
  have hprices := fun σ => pricesAll (ft := ft) (fb := fb) okk (σ := σ)
  have hlook : ∀ a i : Nat, a + 1 + i ≤ t.length - 1 → look (knownK t b r) (a, (a : Int) + 1 + i) = scN t b r a (a + 1 + i) := by
    intro a i h
    rw [look_known hr (by omega) (by omega) (by omega)]
    unfold scN
    congr 1
  have hlookO : ∀ a j : Nat, a < j → j ≤ t.length - 1 → look (knownK t b o) ((a : Int), (j : Int)) = scN t b o a j := by
    intro a j h1 h2
    rw [look_known hro (by omega) (by omega) (by omega)]
    rfl
  have hsb := fun i j => scN_bounds (t := t) (b := b) hr tv (i := i) (j := j)
  have hsbO := fun i j => scN_bounds (t := t) (b := b) hro tv (i := i) (j := j)
  have hPr : ∀ i, i ≤ t.length - 1 → restN t b r allL i = Pr (scN t b r) (t.length - 1) i := fun i hi => rest_Pr hi
  have hrl : ∀ i, i ≤ t.length - 1 → 0 ≤ Pr (scN t b r) (t.length - 1) i ∧ Pr (scN t b r) (t.length - 1) i ≤ 12960000 := fun i hi => by rw [← hPr i hi]; exact restN_le hr tv n61 hi
  have hPget : ∀ i, i ≤ t.length - 1 → (outA 61 (valP t b r (fun _ _ => true)) 0)[i]? = some (Pr (scN t b r) (t.length - 1) i) := by
    intro i hi
    rw [outA_get (by omega), if_pos (Nat.zero_le _), valP_all hi, hPr i hi]
  have hPl : (outA 61 (valP t b r (fun _ _ => true)) 0).length = 61 := by simp
  have hbr : ∀ i, i < t.length - 1 → some (btw t b r o i) = bacc (Pr (scN t b r) (t.length - 1)) (scN t b r) (scN t b o) (btw t b r o) i (t.length - 1 - i) := by
    intro i hi
    have hs := bacc_some (sc := scN t b r) (sc2 := scN t b o) (bn := btw t b r o) hi
    have hrec : btw t b r o i = (bacc (Pr (scN t b r) (t.length - 1)) (scN t b r) (scN t b o) (btw t b r o) i (t.length - 1 - i)).getD (0, 0) := bval_rec hi
    cases hb : bacc (Pr (scN t b r) (t.length - 1)) (scN t b r) (scN t b o) (btw t b r o) i (t.length - 1 - i) with
    | none => rw [hb] at hs; cases hs
    | some p => rw [hb] at hrec; rw [hrec]; rfl
  have hbin : ∀ i, i ≤ t.length - 1 → InR 12960000 (btw t b r o i) := by
    intro i hi
    refine in_mono (bval_in hsbO rfl hi) ?_
    unfold capB
    omega
  have hbl : btw t b r o (t.length - 1) = (0, 0) := bval_last
  have hbP : ∀ i, i ≤ t.length - 1 → btwP t b r o i = btw t b r o i := fun i h => by simp [btwP, h]
  have hbZ : ∀ i, t.length - 1 ≤ i → btwP t b r o i = (0, 0) := fun i h => by
    unfold btwP
    split
    · rw [show i = t.length - 1 by omega, hbl]
    · rfl
  generalize hPd : outA 61 (valP t b r (fun _ _ => true)) 0 = P at *
  generalize hkn : knownK t b r = kn at *
  generalize hko : knownK t b o = ko at *
  generalize hyd : yardV t ft b fb kn = y at *
  generalize hyod : yardV t ft b fb ko = yo at *
  generalize hsd : scN t b r = sc at *
  generalize hsdo : scN t b o = so at *
  generalize hbd : btw t b r o = bn at *
  generalize hbpd : btwP t b r o = bp at *
  generalize hLd : t.length - 1 = L at *
  have hzero : ∀ f : Int × Int → Int, f (0, 0) = 0 → outA 61 (fun i => f (bp i)) L = List.replicate 61 0 := by
    intro f hf
    apply List.ext_getElem?
    intro i
    by_cases hi : i < 61
    · rw [outA_get hi, List.getElem?_replicate, if_pos hi]
      split
      · rw [hbZ i (by assumption), hf]
      · rfl
    · rw [List.getElem?_eq_none (by simp; omega), List.getElem?_eq_none (by simp; omega)]
  have hone : cellsOf yo = some [yo] := by rw [← hyod]; rfl
  refine fn76.spec0 mixed itT_ok ?_
  rw [ic76]
  refine ab_seq_k fun K1 h1 => ?_
  simp [hone]
  refine h1 _ _ _ ?_
  clear h1 K1
  refine ab_seq_k fun K2 h2 => ?_
  simp [-List.reduceReplicate]
  refine callK_of (hprices _) ?_
  simp [-List.reduceReplicate, hPl]
  refine h2 _ _ _ ?_
  clear h2 K2
  refine ab_seq_k fun K3 h3 => ?_
  simp [-List.reduceReplicate]
  refine h3 _ _ _ ?_
  clear h3 K3
  have hZ : List.replicate 61 (V.i IntKind.i64 0) = ints (List.replicate 61 0) := by simp [ints]
  rw [hZ]
  refine ab_seq_k fun K4 h4 => ?_
  refine ab_seq_k fun K5 h5 => ?_
  simp [-List.reduceReplicate]
  refine callK_of (hlong _) ?_
  simp [-List.reduceReplicate, wrap64 (x := (t.length : Int) - 1 - 1) (by omega) (by omega)]
  refine h5 _ _ _ ?_
  clear h5 K5
  refine ab_block_k fun K6 h6 => ?_
  refine ab_loop_k (fun m env σ => ∃ id : Nat, m ≤ L ∧ env = [(0, y), (3, .p 0 0 0), (4, .p 1 0 0), (5, .p 2 0 0), (6, .p 3 0 0), (7, .p 4 0 0), (8, .p id 0 0)] ∧ HpW σ yo P (outA 61 (fun i => (bp i).1) m) (outA 61 (fun i => (bp i).2) m) id ((m : Int) - 1)) L
    ⟨5, Nat.le_refl _, by simp, ?_⟩ ?_
  · rw [hzero (fun p => p.1) rfl, hzero (fun p => p.2) rfl]
    constructor <;> simp [-List.reduceReplicate] <;> omega
  rintro m env σ ⟨id, hm, rfl, hp⟩ K7 h7
  rw [ic76_2]
  have hi := hp.hi
  refine ab_seq_k fun K8 h8 => ?_
  refine ab_seq_k fun K9 h9 => ?_
  simp [hi]
  refine h9 _ _ _ ?_
  clear h9 K9
  refine ab_cond_of rfl (fun hc => ?_) (fun hc => ?_)
  · obtain ⟨a, rfl⟩ : ∃ a, m = a + 1 := ⟨m - 1, by simp at hc; omega⟩
    have e1 : ((a + 1 : Nat) : Int) - 1 = a := by omega
    rw [e1] at hp hi
    have g1 := hPget a (by omega)
    have g2 := hPget (a + 1) (by omega)
    obtain ⟨f1, k1⟩ := List.getElem?_eq_some_iff.1 g1
    obtain ⟨f2, k2⟩ := List.getElem?_eq_some_iff.1 g2
    have e2 : ((a : Int) + 1).toNat = a + 1 := by omega
    have e3 : (a : Int) + 1 < 61 := by omega
    have e4 : (0 : Int) ≤ (a : Int) + 1 := by omega
    have e5 : (a : Int) < 61 := by omega
    have hAl : (outA 61 (fun i => (bp i).1) (a + 1)).length = 61 := by simp
    have hBl : (outA 61 (fun i => (bp i).2) (a + 1)).length = 61 := by simp
    have hAg : ∀ i, a < i → i ≤ L → (outA 61 (fun i => (bp i).1) (a + 1))[i]? = some (bn i).1 := by
      intro i h1 h2
      rw [outA_get (by omega), if_pos (by omega), hbP i h2]
    have hBg : ∀ i, a < i → i ≤ L → (outA 61 (fun i => (bp i).2) (a + 1))[i]? = some (bn i).2 := by
      intro i h1 h2
      rw [outA_get (by omega), if_pos (by omega), hbP i h2]
    have hAs : (outA 61 (fun i => (bp i).1) (a + 1)).set a (bn a).1 = outA 61 (fun i => (bp i).1) a := by rw [← hbP a (by omega)]; exact outA_set (f := fun i => (bp i).1) (by omega)
    have hBs : (outA 61 (fun i => (bp i).2) (a + 1)).set a (bn a).2 = outA 61 (fun i => (bp i).2) a := by rw [← hbP a (by omega)]; exact outA_set (f := fun i => (bp i).2) (by omega)
    generalize outA 61 (fun i => (bp i).1) (a + 1) = A at *
    generalize outA 61 (fun i => (bp i).2) (a + 1) = B at *
    have hidl := hp.len
    have hid5 := hp.i5
    simp
    refine h8 _ _ _ ?_
    clear h8 K8
    refine ab_seq_k fun K10 h10 => ?_
    refine ab_block_k fun K11 h11 => ?_
    refine ab_seq_k fun K12 h12 => ?_
    simp
    refine h12 _ _ _ ?_
    clear h12 K12
    have hpx := hp.app (g := [.row 0 [.ss [] 0 true]])
    have hix : (σ ++ [O.row 0 [V.ss [] 0 true]])[σ.length]? = some (.row 0 [.ss [] 0 true]) := by simp
    have hie5 : 5 ≤ σ.length := by omega
    have hine : σ.length ≠ id := by omega
    have hlx : σ.length < (σ ++ [O.row 0 [V.ss [] 0 true]]).length := by simp
    generalize σ ++ [O.row 0 [V.ss [] 0 true]] = S0 at *
    generalize σ.length = ie at *
    have x2 := hpx.h2
    have x3 := hpx.h3
    have x4 := hpx.h4
    have xi := hpx.hi
    refine ab_seq_k fun K13 h13 => ?_
    refine ab_seq_k fun K14 h14 => ?_
    simp [xi, x2, e2, e3, e4, e5, g1, g2, k1, k2, hPl, wrap64 (x := (a : Int) + 1) (by omega) (by omega)]
    refine h14 _ _ _ ?_
    clear h14 K14
    have c1 : ∀ {env S v}, get env 0 = y → get env 3 = .p 0 0 0 → get env 4 = .p 1 0 0 → get env 5 = .p 2 0 0 → get env 6 = .p 3 0 0 → get env 7 = .p 4 0 0 → get env 8 = .p id 0 0 → get env 9 = .p ie 0 0 →
        HpW S yo P A B id a → S[ie]? = some (.row 0 [v]) → AllC S v (bends (Pr sc L) so bn a []) → K13 (some 0) env S := by
      intro env S v w0 w3 w4 w5 w6 w7 w8 w9 hq hqe hqv
      refine h13 _ _ _ ?_
      clear h13 K13
      have hqi := hq.hi
      refine ab_seq_k fun K15 h15 => ?_
      refine ab_seq_k fun K16 h16 => ?_
      simp [w0, w3, w4, w5, w6, w7, w8, w9, hqi]
      refine callK_of (hlogs _ _) ?_
      simp [w0, w3, w4, w5, w6, w7, w8, w9]
      refine h16 _ _ _ ?_
      clear h16 K16
      refine ab_block_k fun K17 h17 => ?_
      refine ⟨_, _, hit (fr := a) (by omega), fun i σ2 => ∃ v, HpW σ2 yo P A B id a ∧ σ2[ie]? = some (.row 0 [v]) ∧ AllC σ2 v (bends (Pr sc L) so bn a ((logsUp kn a (L - a)).take i)), fun _ _ _ => rfl, ⟨v, hq, hqe, by simpa using hqv⟩, ?_, ?_⟩
      · rintro i x σ2 hx ⟨v2, hq2, hqe2, hqv2⟩
        rw [List.getElem?_map, Option.map_eq_some_iff] at hx
        obtain ⟨p, hpi, rfl⟩ := hx
        have htake : (logsUp kn a (L - a)).take (i + 1) = (logsUp kn a (L - a)).take i ++ [p] := by rw [List.take_add_one, hpi]; rfl
        obtain ⟨i', hi', hpe, hpos⟩ := logsUp_mem (List.mem_of_getElem? hpi)
        have hlk := hlook a i' (by omega)
        have hlo := hlookO a (a + 1 + i') (by omega) (by omega)
        obtain ⟨to, sv⟩ := p
        simp only [Prod.mk.injEq] at hpe
        obtain ⟨hto, hsv⟩ := hpe
        simp only at hpos
        have hton : to.toNat = a + 1 + i' := by omega
        rw [show ((a + 1 + i' : Nat) : Int) = to by omega] at hlo
        have hP2 := hrl (a + 1 + i') (by omega)
        have hsv2 := hsb a (a + 1 + i')
        have hso2 := hsbO a (a + 1 + i')
        obtain ⟨⟨b1, b2⟩, b3, b4⟩ := hbin (a + 1 + i') (by omega)
        have r2 := hPget (a + 1 + i') (by omega)
        have r3 := hAg (a + 1 + i') (by omega) (by omega)
        have r4 := hBg (a + 1 + i') (by omega) (by omega)
        obtain ⟨f2', m2⟩ := List.getElem?_eq_some_iff.1 r2
        obtain ⟨f3', m3⟩ := List.getElem?_eq_some_iff.1 r3
        obtain ⟨f4', m4⟩ := List.getElem?_eq_some_iff.1 r4
        have u1 : to < 61 := by omega
        have u2 : 0 ≤ to := by omega
        have hlen : (bends (Pr sc L) so bn a ((logsUp kn a (L - a)).take i)).length < 100 := by
          have h1 := bends_len (rest := Pr sc L) (sc2 := so) (bn := bn) (a := a) (l := (logsUp kn a (L - a)).take i)
          have h2 := logsUp_len (kn := kn) (a := a) (j := L - a)
          simp only [List.length_take] at h1
          omega
        refine ⟨rfl, ?_⟩
        generalize hKR : roundK _ _ _ = KR
        have hfin : ∀ env σ3 v3, HpW σ3 yo P A B id a → σ3[ie]? = some (.row 0 [v3]) → AllC σ3 v3 (bends (Pr sc L) so bn a ((logsUp kn a (L - a)).take (i + 1))) → KR (some 0) env σ3 := by
          intro env σ3 v3 h1 h2 h3
          rw [← hKR]
          exact ⟨rfl, .inl ⟨v3, h1, h2, h3⟩⟩
        clear hKR
        rw [htake, bends_snoc] at hfin
        simp only [hton] at hfin
        generalize bends (Pr sc L) so bn a ((logsUp kn a (L - a)).take i) = l at *
        have hil : AllC σ2 v2 l := hqv2
        refine ab_seq_k fun K20 h20 => ?_
        simp [logV]
        refine h20 _ _ _ ?_
        simp
        have hqa := hq2.app (g := [.row 0 [.i .i64 a, .i .i64 to]])
        have hqea := app_get (g := [.row 0 [.i .i64 a, .i .i64 to]]) hqe2
        have hqva := hqv2.app (g := [.row 0 [.i .i64 a, .i .i64 to]])
        have hla : (σ2 ++ [O.row 0 [.i .i64 a, .i .i64 to]])[σ2.length]? = some (.row 0 [.i .i64 a, .i .i64 to]) := by simp
        have hl2 := hq2.len
        have hll : σ2.length < (σ2 ++ [O.row 0 [.i .i64 a, .i .i64 to]]).length := by simp
        generalize σ2 ++ [O.row 0 [.i .i64 a, .i .i64 to]] = T at *
        have hnil : ∀ ver off n es, v2 ≠ .s σ2.length ver off n es := by
          intro ver off n es hE
          rcases hqv2 with ⟨-, h⟩ | ⟨sid, sver, -, h, hs, -⟩
          · rw [hE] at h; cases h
          · rw [hE] at h
            cases h
            have := (List.getElem?_eq_some_iff.1 hs).1
            omega
        generalize σ2.length = il at *
        have t0 := hqa.h0
        have t2 := hqa.h2
        have t3 := hqa.h3
        have t4 := hqa.h4
        have ti := hqa.hi
        rw [ic76_0]
        refine ab_block_k fun K21 h21 => ?_
        refine ab_seq_k fun K22 h22 => ?_
        simp [t0, hla]
        refine callK_of (hscale _ _ _) ?_
        rw [hlo]
        simp
        refine h22 _ _ _ ?_
        clear h22 K22
        refine ab_seq_k fun K23 h23 => ?_
        simp [ti, t2, hla, e5, u1, u2, hton, hPl, g1, k1, r2, m2, wrap64 (x := sv + Pr sc L (a + 1 + i')) (by omega) (by omega)]
        refine h23 _ _ _ ?_
        clear h23 K23
        refine ab_cond_of rfl (fun hc4 => ?_) (fun hc4 => ?_)
        · have he : Pr sc L a = sv + Pr sc L (a + 1 + i') := by simpa using hc4
          rw [if_pos he] at hfin
          simp [hqea, t3, t4, hla, u1, u2, hton, hAl, hBl, r3, r4, m3, m4, wrap64 (x := so a (a + 1 + i') + (bn (a + 1 + i')).1) (by omega) (by omega), wrap64 (x := so a (a + 1 + i') + (bn (a + 1 + i')).2) (by omega) (by omega)]
          refine appC_all hqva (by omega) (by omega) ?_
          intro v' S' hv' hkeep
          have hone' := hv'.one
          have hw := hqa.keep hqva hkeep
          have he' := hkeep.2.2.1 _ _ hqea
          simp [he', hone']
          refine h21 _ _ _ (hfin _ _ v' (hw.setE hie5 hine) (List.getElem?_set_self (List.getElem?_eq_some_iff.1 he').1) ?_)
          exact hv'.set (.inr he')
        · have he : ¬ Pr sc L a = sv + Pr sc L (a + 1 + i') := by simpa using hc4
          rw [if_neg he, List.append_nil] at hfin
          simp
          exact h21 _ _ _ (hfin _ _ v2 hqa hqea hqva)
      · rintro σ2 ⟨v2, hq2, hqe2, hqv2⟩
        rw [List.length_map, List.take_length] at hqv2
        refine h17 _ _ _ ?_
        refine h15 _ _ _ ?_
        have hfold := bends_acc (kn := kn) (rest := Pr sc L) (sc := sc) (sc2 := so) (bn := bn) (a := a) (j := L - a) (fun i hi => hlook a i (by omega))
        rw [← hbr a (by omega)] at hfold
        have hlen : (bends (Pr sc L) so bn a (logsUp kn a (L - a))).length < 100 := by
          have h1 := bends_len (rest := Pr sc L) (sc2 := so) (bn := bn) (a := a) (l := logsUp kn a (L - a))
          have h2 := logsUp_len (kn := kn) (a := a) (j := L - a)
          omega
        generalize bends (Pr sc L) so bn a (logsUp kn a (L - a)) = l at *
        cases l with
        | nil => cases hfold
        | cons e l =>
        rw [fold_first] at hfold
        have hfold := Option.some.inj hfold
        rcases hqv2 with ⟨h, -⟩ | ⟨sid, sver, hsid, rfl, hs, -⟩
        · cases h
        have z3 := hq2.h3
        have z4 := hq2.h4
        have zi := hq2.hi
        refine ab_seq_k fun K24 h24 => ?_
        have hs0 : (lsV (e :: l))[0]? = some (.i .i64 e.1) := rfl
        have hs1 : (lsV (e :: l))[1]? = some (.i .i64 e.2) := rfl
        have hg0 : ∀ h, (lsV (e :: l))[0]'h = .i .i64 e.1 := fun _ => rfl
        have hg1 : ∀ h, (lsV (e :: l))[1]'h = .i .i64 e.2 := fun _ => rfl
        have hs4 : sid ≠ 4 := by
          intro h
          subst h
          rw [hq2.h4] at hs
          simp only [Option.some.injEq, O.row.injEq] at hs
          have e9 := congrArg List.length hs.2
          have hlB := hq2.lB
          simp at e9
          omega
        have U4 := set3_get (x := O.row 0 ((ints A).set a (.i .i64 e.1))) z4 (by omega)
        have Ui := set3_get (x := O.row 0 ((ints A).set a (.i .i64 e.1))) zi (by omega)
        have Ue := set3_get (x := O.row 0 ((ints A).set a (.i .i64 e.1))) hqe2 (by omega)
        have Us := set3_get (x := O.row 0 ((ints A).set a (.i .i64 e.1))) hs (by omega)
        simp [abDs_consU, drU, recheck_cons, recheck_nil, rcK, hqe2, zi, hs, hs0, hs1, hg0, hg1, e5, z3, z4, hAl, hBl, U4, Ui, Ue, Us, IS.dst]
        refine ⟨by omega, h24 _ _ _ ?_⟩
        clear h24 K24
        rw [ints_set, ints_set]
        have hw := (hq2.setA (A.set a e.1)).setB (B.set a e.2) (by simp [hBl])
        have he2 : ((σ2.set 3 (O.row 0 (ints (A.set a e.1)))).set 4 (O.row 0 (ints (B.set a e.2))))[ie]? = some (.row 0 [.s sid sver 0 (l.length + 1) 2]) := by
          rw [List.getElem?_set_ne (by omega), List.getElem?_set_ne (by omega)]
          simpa using hqe2
        have hs2 : ((σ2.set 3 (O.row 0 (ints (A.set a e.1)))).set 4 (O.row 0 (ints (B.set a e.2))))[sid]? = some (.row sver (lsV (e :: l))) := by
          rw [List.getElem?_set_ne (by omega), List.getElem?_set_ne (by omega)]; exact hs
        generalize (σ2.set 3 (O.row 0 (ints (A.set a e.1)))).set 4 (O.row 0 (ints (B.set a e.2))) = U0 at *
        refine ab_seq_k fun K25 h25 => ?_
        simp [he2, hs2]
        refine h25 _ _ _ ?_
        clear h25 K25
        refine ab_block_k fun K26 h26 => ?_
        refine ab_loop_k (fun m env U => ∃ i : Nat, i + m = l.length + 1 ∧ env = [(0, y), (3, .p 0 0 0), (4, .p 1 0 0), (5, .p 2 0 0), (6, .p 3 0 0), (7, .p 4 0 0), (8, .p id 0 0), (90, .s sid sver 0 (l.length + 1) 2), (91, .i .i64 ((l.length : Int) + 1)), (92, .i .i64 i)] ∧
            HpW U yo P (A.set a (((e :: l).take i).foldl meet e).1) (B.set a (((e :: l).take i).foldl meet e).2) id a ∧ U[sid]? = some (.row sver (lsV (e :: l)))) (l.length + 1)
          ⟨0, by omega, by simp, by simpa using hw, hs2⟩ ?_
        rintro m3 env U ⟨i, hi3, rfl, hu, hus⟩ K27 h27
        rw [ic76_1]
        refine ab_seq_k fun K28 h28 => ?_
        simp
        refine h28 _ _ _ ?_
        clear h28 K28
        refine ab_seq_k fun K29 h29 => ?_
        refine ab_cond_of rfl (fun hc5 => ?_) (fun hc5 => ?_)
        · have hil : i < (e :: l).length := by simp at hc5 ⊢; omega
          have hxg : (e :: l)[i]? = some (e :: l)[i] := List.getElem?_eq_getElem hil
          obtain ⟨x1, x2', x3'⟩ := lsV_get hxg
          have htk : ((e :: l).take (i + 1)).foldl meet e = meet (((e :: l).take i).foldl meet e) (e :: l)[i] := by
            rw [List.take_add_one, hxg, List.foldl_append]; rfl
          generalize (e :: l)[i] = x at *
          generalize ((e :: l).take i).foldl meet e = c at *
          have u3 := hu.h3
          have u4 := hu.h4
          have ui := hu.hi
          have hil2 : i < l.length + 1 := by simpa using hil
          have hle : i * 2 + 2 ≤ (l.length + 1) * 2 := by omega
          have d1 : (A.set a c.1)[a]? = some c.1 := List.getElem?_set_self (by omega)
          have d2 : (B.set a c.2)[a]? = some c.2 := List.getElem?_set_self (by omega)
          obtain ⟨d3, d4⟩ := List.getElem?_eq_some_iff.1 d1
          obtain ⟨d5, d6⟩ := List.getElem?_eq_some_iff.1 d2
          simp
          refine h29 _ _ _ ?_
          clear h29 K29
          refine ab_seq_k fun K30 h30 => ?_
          refine ab_block_k fun K31 h31 => ?_
          refine ab_seq_k fun K32 h32 => ?_
          simp [hus, hil2, hle, x1]
          refine ⟨by omega, h32 _ _ _ ?_⟩
          clear h32 K32
          have hup := hu.app (g := [.row 0 [.i .i64 x.1, .i .i64 x.2]])
          have husp := app_get (g := [.row 0 [.i .i64 x.1, .i .i64 x.2]]) hus
          have hxl : (U ++ [O.row 0 [V.i IntKind.i64 x.1, V.i IntKind.i64 x.2]])[U.length]? = some (.row 0 [.i .i64 x.1, .i .i64 x.2]) := by simp
          have hUl := hu.len
          have hU5 : 5 ≤ U.length := by omega
          generalize U ++ [O.row 0 [V.i IntKind.i64 x.1, V.i IntKind.i64 x.2]] = W at *
          generalize U.length = ix at *
          have q3 := hup.h3
          have q4 := hup.h4
          have qi := hup.hi
          have Q4 := set3_get (x := O.row 0 (ints (A.set a (min c.1 x.1)))) q4 (by omega)
          have Qi := set3_get (x := O.row 0 (ints (A.set a (min c.1 x.1)))) qi (by omega)
          have Qx := set3_get (x := O.row 0 (ints (A.set a (min c.1 x.1)))) hxl (by omega)
          simp [abDs_consU, drU, recheck_cons, recheck_nil, rcK, IS.dst, q3, q4, qi, hxl, e5, d1, d2, d4, d6, ints_set, hAl, hBl, Q4, Qi, Qx]
          refine ⟨by omega, h31 _ _ _ ?_⟩
          refine h30 _ _ _ ?_
          simp [wrap64 (x := (i : Int) + 1) (by omega) (by omega)]
          refine h27 _ _ _ (again (m3 - 1) (by omega) ⟨i + 1, by omega, by simp, ?_, ?_⟩)
          · rw [htk]
            have hA := (hup.setA (A.set a (min c.1 x.1))).setB (B.set a (max c.2 x.2)) (by simp [hBl])
            exact hA
          · rw [List.getElem?_set_ne (by omega), List.getElem?_set_ne (by omega)]
            exact husp
        · have hil : i = l.length + 1 := by simp at hc5; omega
          subst hil
          have hfull : List.take (l.length + 1) (e :: l) = e :: l := List.take_of_length_le (by simp)
          rw [hfull, hfold, hAs, hBs] at hu
          have hui := hu.hi
          simp
          refine h26 _ _ _ ?_
          refine h11 _ _ _ ?_
          refine h10 _ _ _ ?_
          refine ab_seq_k fun K33 h33 => ?_
          refine ab_seq_k fun K34 h34 => ?_
          simp [hui]
          refine h34 _ _ _ ?_
          simp
          refine h33 _ _ _ ?_
          simp [set_app0]
          refine h7 _ _ _ (again a (by omega) ⟨U.length, by omega, by simp, ?_⟩)
          rw [wrap64 (x := (a : Int) - 1) (by omega) (by omega)]
          exact hu.fresh _
    by_cases hz : Pr sc L a = Pr sc L (a + 1)
    · refine ab_cond_of rfl (fun hc3 => ?_) (fun hc3 => ?_)
      · have q3 := hAg (a + 1) (by omega) (by omega)
        have q4 := hBg (a + 1) (by omega) (by omega)
        obtain ⟨f3, k3⟩ := List.getElem?_eq_some_iff.1 q3
        obtain ⟨f4, k4⟩ := List.getElem?_eq_some_iff.1 q4
        have hb0 : bends (Pr sc L) so bn a [] = [] ++ [((bn (a + 1)).1, (bn (a + 1)).2)] := by simp [bends, hz]
        have he' := app_get (g := [O.row 0 [V.i IntKind.i64 (bn (a + 1)).1, V.i IntKind.i64 (bn (a + 1)).2]]) hix
        have hw := hpx.app (g := [O.row 0 [V.i IntKind.i64 (bn (a + 1)).1, V.i IntKind.i64 (bn (a + 1)).2]])
        have hv' : AllC (S0 ++ [O.row 0 [V.i IntKind.i64 (bn (a + 1)).1, V.i IntKind.i64 (bn (a + 1)).2]]) (.s S0.length 0 0 1 2) [((bn (a + 1)).1, (bn (a + 1)).2)] :=
          .inr ⟨S0.length, 0, by omega, rfl, by simp [lsV], by simp⟩
        simp [xi, hix, x3, x4, e2, e3, e4, e5, hAl, hBl, q3, q4, k3, k4, he', wrap64 (x := (a : Int) + 1) (by omega) (by omega)]
        refine c1 rfl rfl rfl rfl rfl rfl rfl rfl (hw.setE hie5 hine) (List.getElem?_set_self (List.getElem?_eq_some_iff.1 he').1) ?_
        rw [hb0]
        exact hv'.set (.inr he')
      · simp [hz] at hc3
    · refine ab_cond_of rfl (fun hc3 => ?_) (fun hc3 => ?_)
      · simp [hz] at hc3
      · simp
        refine c1 rfl rfl rfl rfl rfl rfl rfl rfl hpx hix ?_
        have hb0 : bends (Pr sc L) so bn a [] = [] := by simp [bends, hz]
        rw [hb0]
        exact .inl ⟨rfl, rfl⟩
  · have hm0 : m = 0 := by simp at hc; omega
    subst hm0
    have s1 := hp.h1
    have s3 := hp.h3
    have s4 := hp.h4
    have g3 : (outA 61 (fun i => (bp i).1) 0)[0]? = some (bn 0).1 := by rw [outA_get (by omega), if_pos (Nat.le_refl _), hbP 0 (Nat.zero_le _)]
    have g4 : (outA 61 (fun i => (bp i).2) 0)[0]? = some (bn 0).2 := by rw [outA_get (by omega), if_pos (Nat.le_refl _), hbP 0 (Nat.zero_le _)]
    obtain ⟨f3, k3⟩ := List.getElem?_eq_some_iff.1 g3
    obtain ⟨f4, k4⟩ := List.getElem?_eq_some_iff.1 g4
    generalize outA 61 (fun i => (bp i).1) 0 = M1 at *
    generalize outA 61 (fun i => (bp i).2) 0 = M2 at *
    simp
    refine h6 _ _ _ ?_
    refine h4 _ _ _ ?_
    refine ab_seq_k fun K35 h35 => ?_
    simp [s1, s3, s4, g3, g4, k3, k4]
    refine h35 _ _ _ ?_
    simp
    have w1 : (σ.set 1 (O.row 0 [V.i IntKind.i64 (bn 0).1, V.i IntKind.i64 (bn 0).2]))[1]? = some (.row 0 [V.i IntKind.i64 (bn 0).1, V.i IntKind.i64 (bn 0).2]) := List.getElem?_set_self (List.getElem?_eq_some_iff.1 s1).1
    exact fin_of 1 (by simp [rs76, w1])
end Go.Ab
