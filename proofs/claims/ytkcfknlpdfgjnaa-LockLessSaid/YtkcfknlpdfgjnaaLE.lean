/- ThroughOf, TimeOf. -/
import Derived.Test.YtkcfknlpdfgjnaaLD
set_option linter.unusedVariables false
set_option linter.unusedSimpArgs false
set_option maxHeartbeats 4000000
namespace Go.Ab
open Go Go.Proofs

/-! ### Operations whose turn is drawn across others that change the heap -/
section
variable {P : Program} {Y : Yield} {n0 : Nat}
def drU (P : Program) (Y : Yield) (n0 : Nat) (s : IS) (us : List Nat) (r : List (IS × List Nat)) (j : Nat) (pend : List (IS × Env × V × List Nat)) (K : Kt) (md : Md) (env : Env) (σ : List O) (md' : Md) (env' : Env) (σ' : List O) : Prop :=
  md' = md ∧ (s.loud = false → σ' = σ) ∧ recheck P Y n0 j pend md σ' ∧ abDs P Y n0 r (j + 1) (if us.isEmpty then pend else (s, env, (match s.dst with | some d => get env' d | none => .u), us) :: pend) K md' env' σ'
theorem abDs_consU {s : IS} {us : List Nat} {r : List (IS × List Nat)} {j : Nat} {pend : List (IS × Env × V × List Nat)} {K : Kt} {md : Md} {env : Env} {σ : List O} : abDs P Y n0 ((s, us) :: r) j pend K md env σ = abS P Y n0 s (drU P Y n0 s us r j pend K md env σ) md env σ := (rfl)
def rcK (md : Md) (env : Env) (d : Option Nat) (v : V) (σ : List O) (md' : Md) (env' : Env) (σ' : List O) : Prop := md' = md ∧ env' = put env d v ∧ σ' = σ
theorem recheck_cons {s : IS} {env : Env} {v : V} {us : List Nat} {r : List (IS × Env × V × List Nat)} {j : Nat} {md : Md} {σ : List O} :
    recheck P Y n0 j ((s, env, v, us) :: r) md σ = ((if us.contains j then abS P Y n0 s (rcK md env s.dst v σ) md env σ else True) ∧ recheck P Y n0 j r md σ) := (rfl)
theorem recheck_nil {j : Nat} {md : Md} {σ : List O} : recheck P Y n0 j [] md σ = True := (rfl)
end

theorem ixsJ {σ : List O} {v : V} {l : List Int} {i : Int} {x : Int} {C : Ct} (h : SlI σ v l) (h0 : 0 ≤ i) (hx : l[i.toNat]? = some x) (hC : ∀ a, PtI σ a x → C a σ) : ixsC 1 v (.i .i64 i) σ C := by
  obtain ⟨k, rfl⟩ : ∃ k : Nat, i = k := ⟨i.toNat, by omega⟩
  exact ixsI h (by simpa using hx) hC
theorem Gr.sli {k : Nat} {σ : List O} {v : V} {l : List Int} (h : Gr k 1 σ v l.length (ints l)) : SlI σ v l := by
  rcases h.cases with ⟨h1, h2, rfl⟩ | ⟨id, ver, -, -, rfl, h3, -⟩
  · have : l = [] := List.eq_nil_of_length_eq_zero h1
    subst this
    exact .inl ⟨true, rfl⟩
  · exact .inr ⟨id, ver, rfl, h3⟩
/-- Two slices that grow, apart from one another. -/
def Dj (v w : V) : Prop := ∀ j, idOf v = some j → idOf w ≠ some j
theorem Grew.other {k es' n' : Nat} {v v' w : V} {σ σ' : List O} {cs' : List V} (g : Grew v v' σ σ') (hw : Gr k es' σ w n' cs') (hd : Dj v w) : Gr k es' σ' w n' cs' :=
  hw.keep fun j hk hj => g.keep j (hw.id_ge hj).2 (fun e => hd j e hj)
theorem Grew.dj {k es' n' : Nat} {v v' w : V} {σ σ' : List O} {cs' : List V} (g : Grew v v' σ σ') (hw : Gr k es' σ w n' cs') (hd : Dj v w) : Dj v' w := by
  intro j hj hw'
  rcases g.id with e | ⟨e1, e2⟩
  · exact hd j (by rw [← e]; exact hj) hw'
  · rw [e2] at hj
    cases hj
    have := (hw.id_ge hw').2
    omega
theorem Dj.symm {v w : V} (h : Dj v w) : Dj w v := fun j h1 h2 => h j h2 h1

theorem runR_last {T : Tw} {room : Int} {o : List Int} {i : Nat} (hi : 0 < i) (h : i ≤ o.length) : (runR T room (o.take i)).thrs[i - 1]? = some (runR T room (o.take i)).last := by
  obtain ⟨k, rfl⟩ : ∃ k, i = k + 1 := ⟨i - 1, by omega⟩
  have hx : o[k]? = some o[k] := List.getElem?_eq_getElem (by omega)
  rw [runR_take hx]
  have hl := (runR_len (T := T) (room := room) (o := o.take k)).2
  rw [List.length_take] at hl
  simp only [stepR, Nat.add_sub_cancel]
  rw [List.getElem?_append_right (by omega), hl, show k - min k o.length = 0 by omega]
  rfl

theorem throughOf_ok {T : Tw} {ft fo : Bool} {room : Int} {o : List Int} (hb : TB T) (hr0 : 0 ≤ room) (hr7 : room ≤ 7) (hol : o.length ≤ 12) (hox : ∀ x ∈ o, 0 ≤ x ∧ x < (T.length : Int)) :
    FSpec Try.prog 51 [towV T ft room, sl o fo] [] (.ss (ints (runR T room o).thrs) o.length (o.length == 0)) [] := by
  refine fn51.spec0 mixed noIt_ok ?_
  rw [ic51]
  refine ab_seq_k fun K1 h1 => ?_
  simp
  refine h1 _ _ _ ?_
  clear h1 K1
  refine ab_seq_k fun K2 h2 => ?_
  simp
  refine h2 _ _ _ ?_
  clear h2 K2
  refine ab_seq_k fun K3 h3 => ?_
  simp
  refine h3 _ _ _ ?_
  clear h3 K3
  refine ab_seq_k fun K4 h4 => ?_
  refine ab_seq_k fun K5 h5 => ?_
  simp
  refine h5 _ _ _ ?_
  clear h5 K5
  refine ab_block_k fun K6 h6 => ?_
  refine ab_loop_k (fun m env σ => ∃ (i : Nat) (v w : V), i + m = o.length ∧ env = [(1, sl o fo), (2, .p 0 0 0), (5, .i .i64 (runR T room (o.take i)).free), (6, v), (7, w), (8, .i .i64 i)] ∧ σ[0]? = some (.row 0 (towC T ft room)) ∧
      Gr 1 1 σ v i (ints (runR T room (o.take i)).secs) ∧ Gr 1 1 σ w i (ints (runR T room (o.take i)).thrs) ∧ Dj v w) o.length
    ⟨0, .ss [] 0 true, .ss [] 0 true, by omega, by simp [runR], by simp, by simpa [runR, ints] using Gr.nil, by simpa [runR, ints] using Gr.nil, by intro j hj; cases hj⟩ ?_
  rintro m env σ ⟨i, v, w, hi, rfl, s0, hv, hw, hd⟩ K7 h7
  rw [ic51_0]
  have hσ1 : 1 ≤ σ.length := by have := (List.getElem?_eq_some_iff.1 s0).1; omega
  obtain ⟨hl1, hl2⟩ := runR_len (T := T) (room := room) (o := o.take i)
  have htl : (o.take i).length = i := by rw [List.length_take]; omega
  rw [htl] at hl1 hl2
  refine ab_seq_k fun K8 h8 => ?_
  refine ab_seq_k fun K9 h9 => ?_
  simp
  refine h9 _ _ _ ?_
  clear h9 K9
  refine ab_cond_of rfl (fun hc => ?_) (fun hc => ?_)
  · have hil : i < o.length := by simpa using hc
    obtain ⟨x, hx⟩ : ∃ x, o[i]? = some x := ⟨_, List.getElem?_eq_getElem hil⟩
    obtain ⟨hxx, hx'⟩ := List.getElem?_eq_some_iff.1 hx
    obtain ⟨hx0, hxT⟩ := hox x (List.mem_of_getElem? hx)
    obtain ⟨hr1, hr2⟩ := raft_get hx0 hxT
    obtain ⟨⟨b1, b2⟩, b3, b4⟩ := hb _ hr2
    have hrb := runR_rb hb (room := room) (o := o.take i)
    rw [htl] at hrb
    have hstep := runR_take (T := T) (room := room) hx
    have hlast : 0 < i → (runR T room (o.take i)).thrs[i - 1]? = some (runR T room (o.take i)).last := fun h => runR_last h (by omega)
    have hlast0 : i = 0 → (runR T room (o.take i)).last = 0 := by rintro rfl; rfl
    generalize hsd : runR T room (o.take i) = s at *
    obtain ⟨B1, B2, ⟨B3, B4⟩, B5, B6⟩ := hrb
    obtain ⟨z1, z2, z3⟩ := lsV_get hr1
    have hm2 : min 2 (T.length * 2 - x.toNat * 2) = 2 := by omega
    have hle : x.toNat * 2 + 2 ≤ T.length * 2 := by omega
    simp
    refine h8 _ _ _ ?_
    clear h8 K8
    refine ab_seq_k fun K10 h10 => ?_
    refine ab_block_k fun K11 h11 => ?_
    have hend : ∀ env σ' v' w', get env 1 = sl o fo → get env 2 = .p 0 0 0 → get env 5 = .i .i64 (stepR T room s x).free → get env 6 = v' → get env 7 = w' → get env 8 = .i .i64 i → σ'[0]? = some (.row 0 (towC T ft room)) →
        Gr 1 1 σ' v' (i + 1) (ints (stepR T room s x).secs) → Gr 1 1 σ' w' (i + 1) (ints (stepR T room s x).thrs) → Dj v' w' → K11 (some 0) env σ' := by
      intro env σ' v' w' w1 w2 w5 w6 w7 w8 q0 q1 q2 q3
      refine h11 _ _ _ ?_
      refine h10 _ _ _ ?_
      simp [w1, w2, w5, w6, w7, w8, wrap64 (x := (i : Int) + 1) (by omega) (by omega)]
      exact h7 _ _ _ (again (m - 1) (by omega) ⟨i + 1, v', w', by omega, by simp [hstep], q0, by rw [hstep]; exact q1, by rw [hstep]; exact q2, q3⟩)
    clear h10 h11
    refine ab_seq_k fun K12 h12 => ?_
    have S0 := app_get (g := [O.row 0 [V.i IntKind.i64 0, V.i IntKind.i64 0]]) s0
    obtain ⟨hS0, S0'⟩ := List.getElem?_eq_some_iff.1 S0
    obtain ⟨hs0, s0'⟩ := List.getElem?_eq_some_iff.1 s0
    simp [abDs_consU, drU, recheck_cons, recheck_nil, rcK, IS.dst, s0, S0, s0', S0', get0_towC, hil, hx, hx', hx0, hxT, z1, hm2, hle]
    refine h12 _ _ _ ?_
    clear h12 K12 S0 S0' s0' hS0 hs0
    have hvr : idOf v ≠ some σ.length := fun e => by have := (hv.id_ge e).2; omega
    have hwr : idOf w ≠ some σ.length := fun e => by have := (hw.id_ge e).2; omega
    have sr : (σ ++ [O.row 0 [V.i IntKind.i64 (raft T x).1, V.i IntKind.i64 (raft T x).2]])[σ.length]? = some (.row 0 [.i .i64 (raft T x).1, .i .i64 (raft T x).2]) := by simp
    replace s0 := app_get (g := [O.row 0 [V.i IntKind.i64 (raft T x).1, V.i IntKind.i64 (raft T x).2]]) s0
    replace hv := hv.app (g := [O.row 0 [V.i IntKind.i64 (raft T x).1, V.i IntKind.i64 (raft T x).2]])
    replace hw := hw.app (g := [O.row 0 [V.i IntKind.i64 (raft T x).1, V.i IntKind.i64 (raft T x).2]])
    replace hσ1 : 1 ≤ (σ ++ [O.row 0 [V.i IntKind.i64 (raft T x).1, V.i IntKind.i64 (raft T x).2]]).length := by simp
    generalize σ ++ [O.row 0 [V.i IntKind.i64 (raft T x).1, V.i IntKind.i64 (raft T x).2]] = U at *
    generalize σ.length = il at *
    refine ab_seq_k fun K13 h13 => ?_
    simp [sr, wrap64 (x := s.free + (raft T x).1) (by omega) (by omega)]
    refine h13 _ _ _ ?_
    clear h13 K13
    refine ab_seq_k fun K14 h14 => ?_
    simp
    refine h14 _ _ _ ?_
    clear h14 K14
    refine ab_seq_k fun K15 h15 => ?_
    refine ab_seq_k fun K16 h16 => ?_
    simp
    refine h16 _ _ _ ?_
    clear h16 K16
    have hK15 : ∀ env, get env 1 = sl o fo → get env 2 = .p 0 0 0 → get env 6 = v → get env 7 = w → get env 8 = .i .i64 i → get env 9 = .p il 0 0 → get env 10 = .i .i64 (s.free + (raft T x).1) → get env 11 = .i .i64 (max (s.free + (raft T x).1) s.last) → K15 (some 0) env U := by
      intro env w1 w2 w6 w7 w8 w9 w10 w11
      refine h15 _ _ _ ?_
      clear h15 K15
      have hfree : (stepR T room s x).free = if room ≤ (i : Int) then max (s.free + (raft T x).1) ((s.secs ++ [max (s.free + (raft T x).1) s.last]).getD ((i : Int) - room).toNat 0) else s.free + (raft T x).1 := by rw [← hl1]; rfl
      have hsecs : (stepR T room s x).secs = s.secs ++ [max (s.free + (raft T x).1) s.last] := rfl
      have hthrs : (stepR T room s x).thrs = s.thrs ++ [max (s.free + (raft T x).1) s.last + (raft T x).2] := rfl
      rw [hfree, hsecs, hthrs] at hend
      clear hfree hsecs hthrs hstep
      have hgb : 0 ≤ max (s.free + (raft T x).1) s.last ∧ max (s.free + (raft T x).1) s.last ≤ 30000 := by omega
      generalize max (s.free + (raft T x).1) s.last = g at *
      have hdb : 0 ≤ s.free + (raft T x).1 ∧ s.free + (raft T x).1 ≤ 30000 := by omega
      generalize s.free + (raft T x).1 = dn at *
      refine ab_seq_k fun K17 h17 => ?_
      simp [w1, w2, w6, w7, w8, w9, w10, w11]
      refine appG hv hσ1 (by omega) (by simp) (by simp) ?_
      intro v' U1 hv' hg1
      have hw1 := hg1.other hw hd
      have hd1 := hg1.dj hw hd
      have q0 := hg1.get (j := 0) (fun e => by have := (hv.id_ge e).1; omega) s0
      have q1 := hg1.get (j := il) hvr sr
      have hU1 : 1 ≤ U1.length := by have := hg1.len; omega
      have hwr1 := hwr
      simp [w1, w2, w7, w8, w9, w10, w11]
      refine h17 _ _ _ ?_
      clear h17 K17
      refine ab_seq_k fun K18 h18 => ?_
      simp [q1, wrap64 (x := g + (raft T x).2) (by omega) (by omega)]
      refine appG hw1 hU1 (by omega) (by simp) (by simp) ?_
      intro w' U2 hw' hg2
      have hv2 := hg2.other hv' hd1.symm
      have hd2 := hg2.dj hv' hd1.symm
      have r0 := hg2.get (j := 0) (fun e => by have := (hw.id_ge e).1; omega) q0
      simp
      refine h18 _ _ _ ?_
      clear h18 K18
      refine ab_seq_k fun K19 h19 => ?_
      simp
      refine h19 _ _ _ ?_
      clear h19 K19
      have hz1 : ints (s.secs ++ [g]) = ints s.secs ++ [.i .i64 g] := by simp [ints]
      have hz2 : ints (s.thrs ++ [g + (raft T x).2]) = ints s.thrs ++ [.i .i64 (g + (raft T x).2)] := by simp [ints]
      rw [← hz1] at hv2
      rw [← hz2] at hw'
      refine ab_seq_k fun K20 h20 => ?_
      simp [r0, get1_towC, wrap64 (x := (i : Int) - room) (by omega) (by omega)]
      refine h20 _ _ _ ?_
      clear h20 K20
      refine ab_cond_of rfl (fun hc2 => ?_) (fun hc2 => ?_)
      · have hrm : room ≤ (i : Int) := by simp at hc2; omega
        rw [if_pos hrm] at hend
        have hlen : (s.secs ++ [g]).length = i + 1 := by simp [hl1]
        obtain ⟨k, hk⟩ : ∃ k : Nat, (k : Int) = (i : Int) - room := ⟨((i : Int) - room).toNat, by omega⟩
        have hkn : ((i : Int) - room).toNat = k := by omega
        have hsk : (s.secs ++ [g])[((i : Int) - room).toNat]? = some ((s.secs ++ [g]).getD ((i : Int) - room).toNat 0) := by
          rw [List.getD_eq_getElem?_getD, hkn, List.getElem?_eq_getElem (by omega)]; rfl
        have hv3 := hv2
        rw [← hlen] at hv3
        simp [r0, get1_towC, wrap64 (x := (i : Int) - room) (by omega) (by omega)]
        refine ixsJ hv3.sli (by omega) hsk ?_
        intro pa hpa
        simp
        refine hpa _ ?_
        simp
        exact hend _ _ v' w' rfl rfl (by simp) rfl rfl rfl r0 hv2 hw' hd2.symm
      · have hrm : ¬ room ≤ (i : Int) := by simp at hc2; omega
        rw [if_neg hrm] at hend
        simp
        exact hend _ _ v' w' rfl rfl rfl rfl rfl rfl r0 hv2 hw' hd2.symm
    refine ab_cond_of rfl (fun hc2 => ?_) (fun hc2 => ?_)
    · have hi0 : 0 < i := by simpa using hc2
      have hw3 := hw
      rw [← hl2] at hw3
      simp [wrap64 (x := (i : Int) - 1) (by omega) (by omega)]
      refine ixsJ (l := s.thrs) (x := s.last) hw3.sli (by omega) (by rw [show ((i : Int) - 1).toNat = i - 1 by omega]; exact hlast hi0) ?_
      intro pa hpa
      simp
      refine hpa _ ?_
      simp
      exact hK15 _ rfl rfl rfl rfl rfl rfl rfl (by simp)
    · have hi0 : i = 0 := by simp at hc2; omega
      have hz := hlast0 hi0
      simp
      refine hK15 _ rfl rfl rfl rfl rfl rfl rfl ?_
      rw [hz]
      simp
      omega
  · have hil : i = o.length := by simp at hc; omega
    subst hil
    rw [List.take_length] at hw
    simp
    refine h6 _ _ _ ?_
    refine h4 _ _ _ ?_
    refine ab_seq_k fun K40 h40 => ?_
    simp
    refine h40 _ _ _ ?_
    clear h40 K40
    simp
    refine fin_of 2 ?_
    exact ⟨frz_G hw (by simp), .inr trivial⟩

theorem timeOf_ok {T : Tw} {ft fo : Bool} {room : Int} {o : List Int} (hb : TB T) (hr0 : 0 ≤ room) (hr7 : room ≤ 7) (hol : o.length ≤ 12) (hox : ∀ x ∈ o, 0 ≤ x ∧ x < (T.length : Int)) :
    FSpec Try.prog 43 [towV T ft room, sl o fo] [] (.i .i64 (runR T room o).last) [] := by
  refine fn43.spec0 mixed noIt_ok ?_
  rw [ic43]
  have hth := fun σ => FSpec.frame (σ := σ) (throughOf_ok (ft := ft) (fo := fo) hb hr0 hr7 hol hox) (by simp) (by simp)
  refine ab_seq_k fun K1 h1 => ?_
  simp
  refine h1 _ _ _ ?_
  clear h1 K1
  refine ab_seq_k fun K2 h2 => ?_
  simp [take_towC]
  refine callK_of (hth _) ?_
  simp [take_towC]
  refine h2 _ _ _ ?_
  clear h2 K2
  refine ab_seq_k fun K3 h3 => ?_
  refine ab_seq_k fun K4 h4 => ?_
  simp
  refine h4 _ _ _ ?_
  clear h4 K4
  obtain ⟨hl1, hl2⟩ := runR_len (T := T) (room := room) (o := o)
  refine ab_cond_of rfl (fun hc => ?_) (fun hc => ?_)
  · have h0 : o = [] := by simpa using hc
    subst h0
    refine ab_seq_k fun K5 h5 => ?_
    simp
    refine h5 _ _ _ ?_
    clear h5 K5
    simp
    exact fin_of 1 (by simp [rs43, runR])
  · have hpos : 0 < o.length := by
      cases o with
      | nil => simp at hc
      | cons a l => simp
    simp
    refine h3 _ _ _ ?_
    clear h3 K3
    have hg := runR_last (T := T) (room := room) (o := o) hpos (Nat.le_refl _)
    rw [List.take_length] at hg
    obtain ⟨hg1, hg2⟩ := List.getElem?_eq_some_iff.1 hg
    have e1 : ((o.length : Int) - 1).toNat = o.length - 1 := by omega
    have e2 : (0 : Int) ≤ (o.length : Int) - 1 := by omega
    have e3 : (o.length : Int) - 1 < o.length := by omega
    refine ab_seq_k fun K6 h6 => ?_
    simp [e1, hg, hg2, wrap64 (x := (o.length : Int) - 1) (by omega) (by omega)]
    refine ⟨by omega, by omega, h6 _ _ _ ?_⟩
    simp
    exact fin_of 1 (by simp [rs43])

/-! ### Lists of numbers -/
theorem longs_ok {a b : List Int} {fa fb : Bool} (ha : (a.length : Int) < 1000000000) : FSpec Try.prog 23 [sl a fa, sl b fb] [] (.b (decide (a = b))) [] := by
  refine fn23.spec0 mixed noIt_ok ?_
  rw [ic23]
  refine ab_seq_k fun K1 h1 => ?_
  simp
  refine h1 _ _ _ ?_
  clear h1 K1
  refine ab_seq_k fun K2 h2 => ?_
  refine ab_seq_k fun K3 h3 => ?_
  simp
  refine h3 _ _ _ ?_
  clear h3 K3
  refine ab_cond_of rfl (fun hc => ?_) (fun hc => ?_)
  · have hne : a ≠ b := by rintro rfl; simp at hc
    refine ab_seq_k fun K4 h4 => ?_
    simp
    refine h4 _ _ _ ?_
    clear h4 K4
    simp
    exact fin_of 1 (by simp [rs23, hne])
  have hlen : a.length = b.length := by simp at hc; omega
  simp
  refine h2 _ _ _ ?_
  clear h2 K2
  refine ab_seq_k fun K5 h5 => ?_
  refine ab_seq_k fun K6 h6 => ?_
  simp
  refine h6 _ _ _ ?_
  clear h6 K6
  refine ab_block_k fun K7 h7 => ?_
  refine ab_loop_k (fun m env σ => ∃ i : Nat, i + m = a.length ∧ a.take i = b.take i ∧ env = [(0, sl a fa), (1, sl b fb), (5, .i .i64 i)]) a.length ⟨0, by omega, by simp, by simp⟩ ?_
  rintro m env σ ⟨i, hi, hpre, rfl⟩ K8 h8
  rw [ic23_0]
  refine ab_seq_k fun K9 h9 => ?_
  refine ab_seq_k fun K10 h10 => ?_
  simp
  refine h10 _ _ _ ?_
  clear h10 K10
  refine ab_cond_of rfl (fun hc2 => ?_) (fun hc2 => ?_)
  · have hil : i < a.length := by simpa using hc2
    have hilb : i < b.length := by omega
    have hx : a[i]? = some a[i] := List.getElem?_eq_getElem hil
    have hy : b[i]? = some b[i] := List.getElem?_eq_getElem hilb
    have hta : a.take (i + 1) = a.take i ++ [a[i]] := by rw [List.take_add_one, hx]; rfl
    have htb : b.take (i + 1) = b.take i ++ [b[i]] := by rw [List.take_add_one, hy]; rfl
    simp
    refine h9 _ _ _ ?_
    clear h9 K9
    refine ab_seq_k fun K11 h11 => ?_
    refine ab_block_k fun K12 h12 => ?_
    refine ab_seq_k fun K13 h13 => ?_
    simp [hil, hilb]
    refine h13 _ _ _ ?_
    clear h13 K13
    refine ab_cond_of rfl (fun hc3 => ?_) (fun hc3 => ?_)
    · have hne : a ≠ b := by rintro rfl; simp at hc3
      refine ab_seq_k fun K14 h14 => ?_
      simp
      refine h14 _ _ _ ?_
      clear h14 K14
      simp
      exact fin_of 1 (by simp [rs23, hne])
    · have he : a[i] = b[i] := by simpa using hc3
      simp
      refine h12 _ _ _ ?_
      refine h11 _ _ _ ?_
      simp [wrap64 (x := (i : Int) + 1) (by omega) (by omega)]
      exact h8 _ _ _ (again (m - 1) (by omega) ⟨i + 1, by omega, by rw [hta, htb, hpre, he], by simp⟩)
  · have hil : i = a.length := by simp at hc2; omega
    subst hil
    have he : a = b := by
      rw [List.take_length] at hpre
      rw [hpre, List.take_of_length_le (by omega)]
    simp
    refine h7 _ _ _ ?_
    refine h5 _ _ _ ?_
    refine ab_seq_k fun K15 h15 => ?_
    simp
    refine h15 _ _ _ ?_
    clear h15 K15
    simp
    exact fin_of 1 (by simp [rs23, he])
end Go.Ab
