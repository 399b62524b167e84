/- fine, Order by numbers, before. -/
import Derived.Test.YtkcfknlpdfgjnaaMB
set_option linter.unusedVariables false
set_option linter.unusedSimpArgs false
set_option maxHeartbeats 4000000
namespace Go.Ab
open Go Go.Proofs

def fineB (T : Tw) (room : Int) : Bool := decide (checkTow T room = 0)
theorem fine40 {T : Tw} {ft : Bool} {room : Int} (hl : (T.length : Int) < 9223372036854775808) : FSpec Try.prog 40 [towV T ft room] [] (.b (fineB T room)) [] := by
  refine fn40.spec0 mixed noIt_ok ?_
  rw [ic40]
  have hgr := fun σ => FSpec.frame (σ := σ) (great_ok (T := T) (ft := ft) (room := room)) (by simp) rfl
  refine ab_seq_k fun K1 h1 => ?_
  simp
  refine h1 _ _ _ ?_
  clear h1 K1
  refine ab_seq_k fun K2 h2 => ?_
  simp [take_towC]
  refine callK_of (hgr _) ?_
  by_cases hg : (12 : Int) < T.length
  · have hf : fineB T room = false := by
      unfold fineB
      simp only [decide_eq_false_iff_not]
      intro h
      have := (tow_len h).2.1
      omega
    simp [hg]
    refine h2 _ _ _ ?_
    simp
    exact fin_of 1 (by simp [rs40, hf])
  · have hct := fun σ => FSpec.frame (σ := σ) (refTow (T := T) (ft := ft) (room := room) (by omega)) (by simp) rfl
    simp [hg, take_towC]
    refine callK_of (hct _) ?_
    simp
    refine h2 _ _ _ ?_
    simp
    exact fin_of 1 (by simp [rs40, fineB])

/-- A slice of bytes. -/
def bys (l : List Int) : List V := l.map (V.i .u8)
@[simp] theorem len_bys {l : List Int} : (bys l).length = l.length := by simp [bys]
@[simp] theorem pure_bys {l : List Int} : pureL (bys l) = true := by induction l <;> simp_all [bys]
@[simp] theorem get_bys {l : List Int} {i : Nat} : (bys l)[i]? = (l[i]?).map (V.i .u8) := by simp [bys]
abbrev slB (l : List Int) (f : Bool) : V := .ss (bys l) l.length f
/-- Which one of those left comes next. -/
def pickK (by_ : List Int) (i n : Nat) : Nat := if by_.length = 0 then 0 else ((by_.getD (i % by_.length) 0) % (n : Int)).toNat
def ordSt (by_ : List Int) (n : Nat) : Nat → List Int × List Int
  | 0 => ([], upTo n)
  | i + 1 => ((ordSt by_ n i).1 ++ [(ordSt by_ n i).2.getD (pickK by_ i (n - i)) 0], (ordSt by_ n i).2.take (pickK by_ i (n - i)) ++ (ordSt by_ n i).2.drop (pickK by_ i (n - i) + 1))
def orderBy (by_ : List Int) (n : Nat) : List Int := (ordSt by_ n n).1
theorem pickK_lt {by_ : List Int} {i n : Nat} (hn : 0 < n) : pickK by_ i n < n := by
  unfold pickK
  split
  · exact hn
  · have h1 := Int.emod_nonneg (by_.getD (i % by_.length) 0) (show (n : Int) ≠ 0 by omega)
    have h2 := Int.emod_lt_of_pos (by_.getD (i % by_.length) 0) (show (0 : Int) < n by omega)
    omega
theorem ordSt_spec {by_ : List Int} {n : Nat} : ∀ {i : Nat}, i ≤ n → (ordSt by_ n i).1.length = i ∧ (ordSt by_ n i).2.length = n - i ∧ ((ordSt by_ n i).1 ++ (ordSt by_ n i).2).Perm (upTo n)
  | 0, _ => by simp [ordSt]
  | i + 1, h => by
    obtain ⟨h1, h2, h3⟩ := ordSt_spec (by_ := by_) (n := n) (i := i) (by omega)
    have hk := pickK_lt (by_ := by_) (i := i) (n := n - i) (by omega)
    generalize hK : pickK by_ i (n - i) = k at *
    have e : ordSt by_ n (i + 1) = ((ordSt by_ n i).1 ++ [(ordSt by_ n i).2.getD k 0], (ordSt by_ n i).2.take k ++ (ordSt by_ n i).2.drop (k + 1)) := by rw [ordSt, hK]
    rw [e]
    generalize (ordSt by_ n i).1 = o at *
    generalize (ordSt by_ n i).2 = l at *
    refine ⟨by simp [h1], ?_, ?_⟩
    · rw [List.length_append, List.length_take, List.length_drop]; omega
    · have hkl : k < l.length := by omega
      have hg : l.getD k 0 = l[k] := by simp [List.getD_eq_getElem?_getD, List.getElem?_eq_getElem hkl]
      have hs : l = l.take k ++ l[k] :: l.drop (k + 1) := by rw [← List.drop_eq_getElem_cons hkl, List.take_append_drop]
      rw [hg]
      refine List.Perm.trans ?_ h3
      rw [List.append_assoc]
      refine List.Perm.append_left o ?_
      conv => rhs; rw [hs]
      show (l[k] :: (l.take k ++ l.drop (k + 1))).Perm (l.take k ++ l[k] :: l.drop (k + 1))
      exact List.perm_middle.symm
theorem orderBy_ord {by_ : List Int} {n : Nat} : isOrd n (orderBy by_ n) = true := by
  obtain ⟨h1, h2, h3⟩ := ordSt_spec (by_ := by_) (n := n) (i := n) (Nat.le_refl _)
  have h4 : (ordSt by_ n n).2 = [] := List.eq_nil_of_length_eq_zero (by omega)
  rw [h4, List.append_nil] at h3
  have hnd : (upTo n).Nodup := by
    rw [upTo, List.Nodup, List.pairwise_map]
    exact List.nodup_range.imp (fun h e => h (Int.ofNat.inj e))
  unfold isOrd orderBy
  simp only [decide_eq_true_eq]
  exact ⟨h1, fun x hx => upTo_mem.1 (h3.mem_iff.1 hx), h3.nodup_iff.2 hnd⟩

theorem order41 {T : Tw} {ft fb : Bool} {room : Int} {by_ : List Int} (hn : 1 ≤ T.length) (hn7 : T.length ≤ 7) (hb : (by_.length : Int) ≤ 20) (hb2 : ∀ x ∈ by_, 0 ≤ x ∧ x ≤ 255) :
    FSpec Try.prog 41 [towV T ft room, slB by_ fb] [] (sl (orderBy by_ T.length) false) [] := by
  refine fn41.spec0 mixed noIt_ok ?_
  rw [ic41]
  refine ab_seq_k fun K1 h1 => ?_
  simp
  refine h1 _ _ _ ?_
  clear h1 K1
  refine ab_seq_k fun K2 h2 => ?_
  simp
  refine h2 _ _ _ ?_
  clear h2 K2
  refine ab_seq_k fun K3 h3 => ?_
  refine ab_seq_k fun K4 h4 => ?_
  simp
  refine h4 _ _ _ ?_
  clear h4 K4
  refine ab_block_k fun K5 h5 => ?_
  refine ab_loop_k (fun m env σ => ∃ (i : Nat) (v : V), i + m = T.length ∧ env = [(1, slB by_ fb), (2, .p 0 0 0), (5, v), (6, .ss [] 0 true), (7, .i .i64 i)] ∧ σ[0]? = some (.row 0 (towC T ft room)) ∧ Gr 1 1 σ v (upTo i).length (ints (upTo i))) T.length ⟨0, _, by omega, by simp, rfl, Gr.nil⟩ ?_
  rintro m env σ ⟨i, v, hi, rfl, hs0, hv⟩ K6 h6
  have hσ1 : 1 ≤ σ.length := by have := (List.getElem?_eq_some_iff.1 hs0).1; omega
  rw [ic41_0]
  refine ab_seq_k fun K7 h7 => ?_
  refine ab_seq_k fun K8 h8 => ?_
  simp [hs0, get0_towC, (List.getElem?_eq_some_iff.1 hs0).2]
  refine h8 _ _ _ ?_
  clear h8 K8
  refine ab_cond_of rfl (fun hc => ?_) (fun hc => ?_)
  · have hil : i < T.length := by simpa using hc
    simp
    refine h7 _ _ _ ?_
    clear h7 K7
    refine ab_seq_k fun K9 h9 => ?_
    refine ab_block_k fun K10 h10 => ?_
    have hrow : ints (upTo i) ++ [V.i IntKind.i64 (i : Int)] = ints (upTo (i + 1)) := by rw [upTo_succ]; simp [ints]
    simp
    refine appG hv hσ1 (by simp; omega) (by simp) rfl ?_
    intro v' σ' hg1 hg2
    rw [hrow] at hg1
    simp
    refine h10 _ _ _ ?_
    refine h9 _ _ _ ?_
    simp [wrap64 (x := (i : Int) + 1) (by omega) (by omega)]
    refine h6 _ _ _ (again (m - 1) (by omega) ⟨i + 1, v', by omega, by simp, by rw [hg2.lt hv (by omega) hσ1]; exact hs0, by simpa using hg1⟩)
  · have hil : i = T.length := by simp at hc; omega
    subst hil
    simp
    refine h5 _ _ _ ?_
    refine h3 _ _ _ ?_
    clear h3 h5 h6 h7
    refine ab_seq_k fun K11 h11 => ?_
    refine ab_block_k fun K12 h12 => ?_
    refine ab_loop_k (fun m env σ => ∃ (i : Nat) (v w : V), i + m = T.length ∧ env = [(1, slB by_ fb), (5, v), (6, w)] ∧ 1 ≤ σ.length ∧ Gr 1 1 σ v (ordSt by_ T.length i).2.length (ints (ordSt by_ T.length i).2) ∧ Gr 1 1 σ w (ordSt by_ T.length i).1.length (ints (ordSt by_ T.length i).1) ∧ Dj v w) T.length ⟨0, v, _, by omega, by simp, hσ1, hv, Gr.nil, fun j _ h => by cases h⟩ ?_
    clear hv hs0 hσ1 v σ
    rintro m env σ ⟨i, v, w, hi, rfl, hσ1, hv, hw, hd⟩ K13 h13
    obtain ⟨e1, e2, e3⟩ := ordSt_spec (by_ := by_) (n := T.length) (i := i) (by omega)
    rw [ic41_1]
    refine ab_seq_k fun K14 h14 => ?_
    refine ab_seq_k fun K15 h15 => ?_
    simp
    refine lenI hv.sli ?_
    simp
    refine h15 _ _ _ ?_
    clear h15 K15
    refine ab_cond_of rfl (fun hc2 => ?_) (fun hc2 => ?_)
    · have hil : i < T.length := by have := of_decide_eq_true hc2; omega
      have hk := pickK_lt (by_ := by_) (i := i) (n := T.length - i) (by omega)
      have hst : ordSt by_ T.length (i + 1) = ((ordSt by_ T.length i).1 ++ [(ordSt by_ T.length i).2.getD (pickK by_ i (T.length - i)) 0], (ordSt by_ T.length i).2.take (pickK by_ i (T.length - i)) ++ (ordSt by_ T.length i).2.drop (pickK by_ i (T.length - i) + 1)) := rfl
      generalize (ordSt by_ T.length i).1 = o at *
      generalize (ordSt by_ T.length i).2 = l at *
      generalize hkk : pickK by_ i (T.length - i) = k at *
      have hkl : k < l.length := by omega
      have hx : l[k]? = some (l.getD k 0) := by simp [List.getD_eq_getElem?_getD, List.getElem?_eq_getElem hkl]
      simp
      refine h14 _ _ _ ?_
      clear h14 K14
      refine ab_block_k fun K16 h16 => ?_
      refine ab_seq_k fun K17 h17 => ?_
      simp
      refine h17 _ _ _ ?_
      clear h17 K17
      refine ab_seq_k fun K18 h18 => ?_
      refine ab_seq_k fun K19 h19 => ?_
      have hA : (l.take k).length = k := by rw [List.length_take]; omega
      have hBl : (l.drop (k + 1)).length = l.length - (k + 1) := List.length_drop ..
      have hst2 : (ordSt by_ T.length (i + 1)).2 = l.take k ++ l.drop (k + 1) := by rw [hst]
      have hst1 : (ordSt by_ T.length (i + 1)).1 = o ++ [l.getD k 0] := by rw [hst]
      clear hst
      generalize l.getD k 0 = x at *
      have hK18 : ∀ env, get env 1 = slB by_ fb → get env 5 = v → get env 6 = w → get env 8 = .i .i64 k → K18 (some 0) env σ := by
        intro env w1 w5 w6 w8
        refine h18 _ _ _ ?_
        clear h18 K18 h19 K19
        refine ab_seq_k fun K20 h20 => ?_
        simp [w1, w5, w6, w8]
        refine ixsI hv.sli hx ?_
        intro pa hpa
        simp
        refine hpa _ ?_
        simp
        refine appG hw hσ1 (by omega) (by simp) rfl ?_
        intro w' σ' hg1 hg2
        have hrow : ints o ++ [V.i IntKind.i64 x] = ints (o ++ [x]) := by simp [ints]
        rw [hrow] at hg1
        simp [w1, w5, w6, w8]
        refine h20 _ _ _ ?_
        clear h20 K20
        have hσ2 : 1 ≤ σ'.length := by have := hg2.len; omega
        have hv2 := hg2.other hv hd.symm
        have hd2 := (hg2.dj hv hd.symm).symm
        have hend : ∀ env σ2 v2, get env 1 = slB by_ fb → get env 5 = v2 → get env 6 = w' → 1 ≤ σ2.length → Gr 1 1 σ2 v2 (l.take k ++ l.drop (k + 1)).length (ints (l.take k ++ l.drop (k + 1))) → Gr 1 1 σ2 w' (o ++ [x]).length (ints (o ++ [x])) → Dj v2 w' → K16 (some 0) env σ2 := by
          intro env σ2 v2 q1 q5 q6 a1 a2 a3 a4
          refine h16 _ _ _ ?_
          refine h13 _ _ _ (again (m - 1) (by omega) ⟨i + 1, v2, w', by omega, by simp [q1, q5, q6], a1, ?_, ?_, a4⟩)
          · rw [hst2]; exact a2
          · rw [hst1]; exact a3
        rcases hv2.cases with ⟨h1, -, -⟩ | ⟨id, ver, hn0, hid, hvv, hss, hidl⟩
        · omega
        · subst hvv
          obtain ⟨hssl, hss'⟩ := List.getElem?_eq_some_iff.1 hss
          have hkn : k ≤ l.length := by omega
          have hk1 : (k : Int) + 1 ≤ l.length := by omega
          have hss3 := fun g : List O => app_get (g := g) hss
          have hrA : List.take k (ints l) = ints (l.take k) := by simp [ints]
          have hrB : List.take (l.length - (k + 1)) (List.drop (k + 1) (ints l)) = ints (l.drop (k + 1)) := by
            rw [List.take_of_length_le (by simp)]; simp [ints]
          rw [ab_alt_one]
          by_cases hk0 : k = 0
          · subst hk0
            by_cases hm0 : l.length = 1
            · have hl0 : l.take 0 ++ l.drop (0 + 1) = [] := List.eq_nil_of_length_eq_zero (by simp; omega)
              simp [abDs_consU, drU, recheck_cons, recheck_nil, rcK, IS.dst, hss, hss', hkn, hk1, wrap64 (x := 1) (by omega) (by omega), hm0]
              exact hend _ σ' (.ss [] 0 true) rfl rfl rfl hσ2 (by rw [hl0]; exact Gr.nil) (by rw [List.length_append]; exact hg1) (fun j h => by cases h)
            · have hm1 : ¬ l.length - 1 = 0 := by omega
              simp [abDs_consU, drU, recheck_cons, recheck_nil, rcK, IS.dst, hss, hss', hkn, hk1, wrap64 (x := 1) (by omega) (by omega), hm1]
              refine ⟨by omega, by omega, by omega, ?_⟩
              have hrow : List.take (l.length - 1) (ints l).tail = ints (l.take 0 ++ l.drop (0 + 1)) := by
                rw [List.take_of_length_le (by simp)]; simp [ints]
              rw [hrow]
              have hgw : Gr 1 1 (σ' ++ [O.row 0 (ints (l.take 0 ++ l.drop (0 + 1)))]) w' (o ++ [x]).length (ints (o ++ [x])) := by rw [List.length_append]; exact hg1.app
              refine hend _ _ (.s σ'.length 0 0 (l.length - 1) 1) rfl rfl rfl (by simp) ?_ hgw (fun j h h' => by cases h; have := (hg1.id_ge h').2; omega)
              refine ⟨?_, .inr ⟨?_, σ'.length, 0, hσ2, ?_, ?_⟩⟩
              · simp
              · simp; omega
              · simp
              · simp
          · by_cases hm0 : l.length - (k + 1) = 0
            · simp [abDs_consU, drU, recheck_cons, recheck_nil, rcK, IS.dst, hss, hss', hkn, hk1, wrap64 (x := (k : Int) + 1) (by omega) (by omega), hm0, hk0, hss3]
              refine ⟨by omega, by omega, by omega, by omega, by omega, ?_⟩
              have hd0 : l.drop (k + 1) = [] := List.eq_nil_of_length_eq_zero (by rw [List.length_drop]; omega)
              have hrow : List.take k (ints l) = ints (l.take k ++ l.drop (k + 1)) := by rw [hd0, List.append_nil, hrA]
              rw [hrow]
              have hgw : Gr 1 1 (σ' ++ [O.row 0 (ints (l.take k ++ l.drop (k + 1)))]) w' (o ++ [x]).length (ints (o ++ [x])) := by rw [List.length_append]; exact hg1.app
              refine hend _ _ (.s σ'.length 0 0 k 1) rfl rfl rfl (by simp) ?_ hgw (fun j h h' => by cases h; have := (hg1.id_ge h').2; omega)
              refine ⟨?_, .inr ⟨?_, σ'.length, 0, hσ2, ?_, ?_⟩⟩
              · simp
              · rw [hd0, List.append_nil, hA]; omega
              · rw [hd0, List.append_nil, hA]
              · simp
            · simp [abDs_consU, drU, recheck_cons, recheck_nil, rcK, IS.dst, hss, hss', hkn, hk1, wrap64 (x := (k : Int) + 1) (by omega) (by omega), hm0, hk0, hss3]
              refine ⟨by omega, by omega, by omega, by omega, by omega, ?_⟩
              have hrow : List.take k (ints l) ++ List.take (l.length - (k + 1)) (List.drop (k + 1) (ints l)) = ints (l.take k ++ l.drop (k + 1)) := by rw [hrA, hrB]; simp [ints]
              rw [hrow]
              have hgw : Gr 1 1 (σ' ++ [O.row 1 (ints (l.take k ++ l.drop (k + 1)))]) w' (o ++ [x]).length (ints (o ++ [x])) := by rw [List.length_append]; exact hg1.app
              refine hend _ _ (.s σ'.length 1 0 (k + (l.length - (k + 1))) 1) rfl rfl rfl (by simp) ?_ hgw (fun j h h' => by cases h; have := (hg1.id_ge h').2; omega)
              refine ⟨?_, .inr ⟨?_, σ'.length, 1, hσ2, ?_, ?_⟩⟩
              · simp
              · rw [List.length_append, hA, hBl]; omega
              · rw [List.length_append, hA, hBl]
              · simp
      simp
      refine h19 _ _ _ ?_
      clear h19 K19
      refine ab_cond_of rfl (fun hc3 => ?_) (fun hc3 => ?_)
      · have hbl : 0 < by_.length := by have := of_decide_eq_true hc3; omega
        have hiz : ((i : Int) % by_.length).toNat = i % by_.length := by omega
        simp
        refine lenI hw.sli ?_
        have hil2 : i % by_.length < by_.length := Nat.mod_lt _ hbl
        have hbx : by_[i % by_.length]? = some (by_.getD (i % by_.length) 0) := by simp [List.getD_eq_getElem?_getD, List.getElem?_eq_getElem hil2]
        have hyb := hb2 _ (List.mem_of_getElem? hbx)
        have hkk2 : ((by_.getD (i % by_.length) 0) % ((T.length - i : Nat) : Int)).toNat = k := by rw [← hkk, pickK, if_neg (by omega)]
        have ht : (i : Int).tmod by_.length = ((i % by_.length : Nat) : Int) := by rw [Int.tmod_eq_emod_of_nonneg (by omega), Int.natCast_emod]
        have hne0 : ¬ by_ = [] := by rintro rfl; simp at hbl
        have hlt3 : ((i % by_.length : Nat) : Int) < by_.length := by omega
        generalize by_.getD (i % by_.length) 0 = yb at *
        generalize i % by_.length = ii at *
        obtain ⟨hbxl, hbx'⟩ := List.getElem?_eq_some_iff.1 hbx
        have ht2 : yb.tmod ((T.length - i : Nat) : Int) = k := by rw [Int.tmod_eq_emod_of_nonneg (by omega)]; have := Int.emod_nonneg yb (show ((T.length - i : Nat) : Int) ≠ 0 by omega); omega
        have hnz : ¬ (T.length - i = 0) := by omega
        simp [e1, hbl, ht, hbx, hbx', hne0, hlt3, wrap64 (x := yb) (by omega) (by omega)]
        refine lenI hv.sli ?_
        rw [e2]
        simp [ht2, hnz]
        exact hK18 _ rfl rfl rfl rfl
      · have hbl : by_.length = 0 := by have := of_decide_eq_false hc3; omega
        have hk0 : k = 0 := by rw [← hkk, pickK, if_pos hbl]
        simp
        exact hK18 _ rfl rfl rfl (by simp [hk0])
    · have hil : i = T.length := by have := of_decide_eq_false hc2; omega
      subst hil
      simp
      refine h12 _ _ _ ?_
      refine h11 _ _ _ ?_
      refine ab_seq_k fun K20 h20 => ?_
      simp
      refine h20 _ _ _ ?_
      clear h20 K20
      simp
      have hne : (orderBy by_ T.length).length ≠ 0 := by unfold orderBy; omega
      refine fin_of 2 ?_
      refine ⟨?_, .inr trivial⟩
      show frz 2 0 σ w = _
      rw [frz_G hw pure_ints]
      unfold sl orderBy at *
      have : ((ordSt by_ T.length T.length).1.length == 0) = false := by rw [beq_eq_false_iff_ne]; exact hne
      rw [this]
end Go.Ab
