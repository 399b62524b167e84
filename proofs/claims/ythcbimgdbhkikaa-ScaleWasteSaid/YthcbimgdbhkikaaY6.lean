/- part: the walk. -/
import Derived.Test.YthcbimgdbhkikaaY5
import Derived.Test.YthcbimgdbhkikaaY3
set_option linter.unusedVariables false
set_option linter.unusedSimpArgs false
set_option maxHeartbeats 4000000
namespace Go.Ab
open Go Go.Proofs

theorem pureO_row {ver : Nat} {cells : List V} (h : pureL cells = true) : PureO (.row ver cells) := ⟨ver, cells, rfl, h⟩
theorem frz_agg2 {σ : List O} {a b a' b' : V} (h1 : frz 2 0 σ a = a') (h2 : frz 2 0 σ b = b') : frz 3 0 σ (.agg [a, b]) = .agg [a', b'] := by
  rw [frz]
  split
  · rename_i hp
    simp only [V.pure, pureL, Bool.and_eq_true] at hp
    have e1 : frz 2 0 σ a = a := frz_pure hp.1
    have e2 : frz 2 0 σ b = b := frz_pure hp.2.1
    rw [← h1, ← h2, e1, e2]
  · simp only [List.map_cons, List.map_nil, h1, h2]

/-- Stem, of a slice that is not frozen. -/
theorem stem44 {σ : List O} {id ver n : Nat} (hp : ∀ o ∈ σ, PureO o) (hid : id < σ.length) : FSpec Try.prog 44 [.s id ver 0 n 1] σ (.agg [.s id ver 0 n 1, .ss [] 0 true]) σ := by
  refine fn44.spec mixed noIt_ok ?_
  rw [ic44]
  refine ab_seq_k fun K1 h1 => ?_
  simp
  refine h1 _ _ _ ?_
  clear h1 K1
  refine ab_seq_k fun K2 h2 => ?_
  simp
  refine h2 _ _ _ ?_
  clear h2 K2
  simp
  refine fin_at 3 σ.length (Nat.le_refl _) (by simp) ?_
  have e : frz 2 σ.length (σ ++ [O.row 0 [V.s id ver 0 n 1, V.ss [] 0 true]]) (.s id ver 0 n 1) = .s id ver 0 n 1 := by
    simp [frz, hid]
  have e2 : frz 3 σ.length (σ ++ [O.row 0 [V.s id ver 0 n 1, V.ss [] 0 true]]) (.agg [.s id ver 0 n 1, .ss [] 0 true]) = .agg [.s id ver 0 n 1, .ss [] 0 true] := by
    rw [frz]
    simp only [V.pure, pureL, Bool.false_and, Bool.false_eq_true, if_false, List.map_cons, List.map_nil, e]
    rw [frz_pure rfl]
  simp [rs44, e2, -frz]
  exact frzS_pureL hp

structure HpT (σ : List O) (t b : List Int) (ft fb : Bool) (tt : List Int) (v : V) : Prop where
  h0 : σ[0]? = some (.row 0 [sl t ft, sl b fb])
  h1 : σ[1]? = some (.row 0 [.ss [] 0 true, .ss [] 0 true])
  h2 : σ[2]? = some (.row 0 (ints tt))
  h3 : σ[3]? = some (.row 0 [.s 2 0 0 tt.length 1, v])

theorem partB_take {b : List Int} {f e i : Nat} {x : Int} (h : b[i]? = some x) : partB (b.take (i + 1)) f e = partB (b.take i) f e ++ if (f : Int) ≤ x ∧ x < e then [x - f] else [] := by
  rw [List.take_add_one, h]
  unfold partB
  rw [List.filter_append, List.map_append]
  congr 1
  by_cases hc : (f : Int) ≤ x ∧ x < e
  · simp [hc]
  · rw [if_neg hc]
    simp only [Option.toList, List.filter_cons, List.filter_nil, Bool.and_eq_true, decide_eq_true_eq, hc, if_false, List.map_nil]

theorem part_ok {t b : List Int} {ft fb : Bool} {f e : Nat} (n61 : t.length ≤ 61) (hb : (b.length : Int) < 1000000000) (hbb : ∀ x ∈ b, -9223372036854775808 ≤ x ∧ x < 9223372036854775808) (h1 : f < e) (h2 : e < t.length) :
    FSpec Try.prog 42 [.agg [sl t ft, sl b fb], .i .i64 f, .i .i64 e] [] (.agg [.ss (ints (partT t f e)) (partT t f e).length false, .ss (ints (partB b f e)) (partB b f e).length ((partB b f e).length == 0)]) [] := by
  refine fn42.spec0 mixed noIt_ok ?_
  rw [ic42]
  have hl := partT_len (t := t) (f := f) (e := e) (by omega) h2
  refine ab_seq_k fun K1 h1 => ?_
  simp
  refine h1 _ _ _ ?_
  clear h1 K1
  refine ab_seq_k fun K2 h2' => ?_
  have ee : ((e : Int) + 1).toNat = e + 1 := by omega
  have hne : ¬ (e + 1 - f = 0) := by omega
  have htk : List.take (e + 1 - f) (List.drop f (ints t)) = ints (partT t f e) := by simp [ints, partT, List.map_take, List.map_drop]
  have q1 : (f : Int) ≤ (e : Int) + 1 := by omega
  have q2 : (e : Int) + 1 ≤ t.length := by omega
  have q3 : min (e + 1 - f) (t.length - f) = e + 1 - f := by omega
  have q4 : (e + 1 - f) * 8 ≤ 140737488355328 := by omega
  simp [ee, hne, htk, q1, q2, q3, q4, wrap64 (x := (e : Int) + 1) (by omega) (by omega)]
  refine ⟨hl, ?_⟩
  refine callK_of (stem44 ?_ ?_) ?_
  · intro o ho
    simp at ho
    rcases ho with rfl | rfl | rfl <;> exact pureO_row (by simp)
  · simp
  simp
  refine h2' _ _ _ ?_
  clear h2' K2
  refine ab_seq_k fun K4 h4 => ?_
  refine ab_seq_k fun K3 h3 => ?_
  simp
  refine h3 _ _ _ ?_
  clear h3 K3
  refine ab_block_k fun K5 h5 => ?_
  refine ab_loop_k (fun m env σ => ∃ (i : Nat) (v : V), i + m = b.length ∧ env = [(1, .i .i64 f), (2, .i .i64 e), (3, .p 0 0 0), (6, .p 1 0 0), (7, .p 3 0 0), (8, .i .i64 i)] ∧ HpT σ t b ft fb (partT t f e) v ∧ Gr 4 1 σ v (partB (b.take i) f e).length (ints (partB (b.take i) f e))) b.length
    ⟨0, .ss [] 0 true, by omega, by simp, ⟨by simp, by simp, by simp, by simp [hl]⟩, by simpa [partB, ints] using Gr.nil⟩ ?_
  rintro m env σ ⟨i, v, hi, rfl, hp, hv⟩ K6 h6
  rw [ic42_0]
  have p0 := hp.h0
  have p3 := hp.h3
  have hσ4 : 4 ≤ σ.length := by have := (List.getElem?_eq_some_iff.1 p3).1; omega
  refine ab_seq_k fun K7 h7 => ?_
  refine ab_seq_k fun K8 h8 => ?_
  simp [p0]
  refine h8 _ _ _ ?_
  clear h8 K8
  refine ab_cond_of rfl (fun hc => ?_) (fun hc => ?_)
  · have hib : i < b.length := by simpa using hc
    obtain ⟨x, hx⟩ : ∃ x, b[i]? = some x := ⟨_, List.getElem?_eq_getElem hib⟩
    obtain ⟨hx1, hx2⟩ := List.getElem?_eq_some_iff.1 hx
    have hxb := hbb x (List.mem_of_getElem? hx)
    have hstep := partB_take (f := f) (e := e) hx
    simp
    refine h7 _ _ _ ?_
    clear h7 K7
    refine ab_seq_k fun K9 h9 => ?_
    refine ab_block_k fun K10 h10 => ?_
    have hnext : ∀ env σ2 v2, get env 1 = .i .i64 f → get env 2 = .i .i64 e → get env 3 = .p 0 0 0 → get env 6 = .p 1 0 0 → get env 7 = .p 3 0 0 → get env 8 = .i .i64 i → HpT σ2 t b ft fb (partT t f e) v2 →
        Gr 4 1 σ2 v2 (partB (b.take (i + 1)) f e).length (ints (partB (b.take (i + 1)) f e)) → K10 (some 0) env σ2 := by
      intro env σ2 v2 w1 w2 w3 w6 w7 w8 hq hv2
      refine h10 _ _ _ ?_
      refine h9 _ _ _ ?_
      simp [w1, w2, w3, w6, w7, w8, wrap64 (x := (i : Int) + 1) (by omega) (by omega)]
      exact h6 _ _ _ (again (m - 1) (by omega) ⟨i + 1, v2, by omega, by simp, hq, hv2⟩)
    clear h9 h10
    refine ab_seq_k fun K11 h11 => ?_
    have hK11 : ∀ env, get env 1 = .i .i64 f → get env 2 = .i .i64 e → get env 3 = .p 0 0 0 → get env 6 = .p 1 0 0 → get env 7 = .p 3 0 0 → get env 8 = .i .i64 i → get env 40 = .b (decide ((f : Int) ≤ x) && decide (x < e)) → K11 (some 0) env σ := by
      intro env w1 w2 w3 w6 w7 w8 w40
      refine h11 _ _ _ ?_
      refine ab_cond_of w40 (fun hc2 => ?_) (fun hc2 => ?_)
      · simp only [Bool.and_eq_true, decide_eq_true_eq] at hc2
        rw [if_pos hc2] at hstep
        simp [w1, w2, w3, w6, w7, w8, p0, p3, hib, hx, hx2, wrap64 (x := x - f) (by omega) (by omega)]
        have hbl : (partB (b.take i) f e).length ≤ i := by
          unfold partB
          rw [List.length_map]
          have h1 := List.length_filter_le (fun x => decide ((f : Int) ≤ x) && decide (x < e)) (b.take i)
          rw [List.length_take] at h1
          omega
        refine appG hv hσ4 (by omega) (by simp) (by simp) ?_
        intro v' σ' hv' hg
        have r0 := (hg.lt hv (j := 0) (by omega) hσ4).trans p0
        have r1 := (hg.lt hv (j := 1) (by omega) hσ4).trans hp.h1
        have r2 := (hg.lt hv (j := 2) (by omega) hσ4).trans hp.h2
        have r3 := (hg.lt hv (j := 3) (by omega) hσ4).trans p3
        have hone := hv'.one
        have hl3 := (List.getElem?_eq_some_iff.1 r3).1
        simp [w1, w2, w3, w6, w7, w8, r3, hone]
        refine hnext _ _ v' rfl rfl rfl rfl rfl rfl ⟨?_, ?_, ?_, ?_⟩ ?_
        · rw [List.getElem?_set_ne (by omega)]; exact r0
        · rw [List.getElem?_set_ne (by omega)]; exact r1
        · rw [List.getElem?_set_ne (by omega)]; exact r2
        · exact List.getElem?_set_self hl3
        · rw [hstep, List.length_append]
          have : ints (partB (b.take i) f e ++ [x - f]) = ints (partB (b.take i) f e) ++ [.i .i64 (x - f)] := by simp [ints]
          rw [this]
          exact hv'.setlt (by omega)
      · have hc3 : ¬ ((f : Int) ≤ x ∧ x < e) := by simpa using hc2
        rw [if_neg hc3, List.append_nil] at hstep
        simp
        exact hnext _ _ v w1 w2 w3 w6 w7 w8 hp (by rw [hstep]; exact hv)
    by_cases hfx : (f : Int) ≤ x
    · simp [p0, hib, hx, hx2, hfx]
      exact hK11 _ rfl rfl rfl rfl rfl rfl (by simp [hfx])
    · simp [p0, hib, hx, hx2, hfx]
      exact hK11 _ rfl rfl rfl rfl rfl rfl (by simp [hfx])
  · have hib : i = b.length := by simp at hc; omega
    subst hib
    rw [List.take_length] at hv
    simp
    refine h5 _ _ _ ?_
    refine h4 _ _ _ ?_
    have p1 := hp.h1
    have hl1 := (List.getElem?_eq_some_iff.1 p1).1
    refine ab_seq_k fun K12 h12 => ?_
    simp [p3, p1]
    refine h12 _ _ _ ?_
    simp
    refine fin_of 3 ?_
    have w1 : (σ.set 1 (O.row 0 [V.s 2 0 0 (partT t f e).length 1, v]))[1]? = some (.row 0 [.s 2 0 0 (partT t f e).length 1, v]) := List.getElem?_set_self hl1
    have w2 : (σ.set 1 (O.row 0 [V.s 2 0 0 (partT t f e).length 1, v]))[2]? = some (.row 0 (ints (partT t f e))) := by rw [List.getElem?_set_ne (by omega)]; exact hp.h2
    simp [rs42, w1, -frz]
    exact frz_agg2 (frz_ints (k := 0) w2 (Nat.zero_le _)) (frz_G (hv.setlt (by omega)) (by simp))
end Go.Ab
