/- Proof, of the program: spots and the least of them. -/
import Derived.Test.YtkcfknlpdfgjnaaLV
set_option linter.unusedVariables false
set_option linter.unusedSimpArgs false
set_option maxHeartbeats 4000000
namespace Go.Ab
open Go Go.Proofs

theorem less81 {a b : Sp} : FSpec Try.prog 81 [spotV a, spotV b] [] (.b (lexS a b)) [] := by
  obtain ⟨a1, a2⟩ := a
  obtain ⟨b1, b2⟩ := b
  refine fn81.spec0 mixed noIt_ok ?_
  rw [ic81]
  unfold spotV
  refine ab_seq_k fun K1 h1 => ?_
  simp
  refine h1 _ _ _ ?_
  clear h1 K1
  refine ab_seq_k fun K2 h2 => ?_
  by_cases h1 : a1 < b1
  · have hne : ¬ a1 = b1 := by omega
    simp [h1, hne]
    refine h2 _ _ _ ?_
    simp
    exact fin_of 1 (by simp [rs81, lexS, h1])
  · by_cases he : a1 = b1
    · subst he
      by_cases h3 : a2 = b2
      · subst h3
        simp
        refine h2 _ _ _ ?_
        simp
        exact fin_of 1 (by simp [rs81, lexS])
      · simp [h3]
        refine h2 _ _ _ ?_
        simp
        exact fin_of 1 (by simp [rs81, lexS])
    · simp [h1, he]
      refine h2 _ _ _ ?_
      simp
      exact fin_of 1 (by simp [rs81, lexS, h1, he])
theorem least80 {l : List Sp} {f : Bool} (hl : (l.length : Int) < 1000000000) : FSpec Try.prog 80 [slL l f, .f (.func 81) [] []] [] (.i .i64 (leastBy lexS l l.length)) [] := by
  refine fn80.spec0 mixed noIt_ok ?_
  rw [ic80]
  refine ab_seq_k fun K1 h1 => ?_
  simp
  refine h1 _ _ _ ?_
  clear h1 K1
  refine ab_seq_k fun K2 h2 => ?_
  simp
  refine h2 _ _ _ ?_
  clear h2 K2
  refine ab_seq_k fun K2 h2 => ?_
  refine ab_seq_k fun K3 h3 => ?_
  simp
  refine h3 _ _ _ ?_
  clear h3 K3
  refine ab_block_k fun K4 h4 => ?_
  refine ab_loop_k (fun m env σ => ∃ i : Nat, i + m = l.length ∧ env = [(0, slL l f), (1, .f (.func 81) [] []), (5, .i .i64 (leastBy lexS l i)), (8, slL l f), (9, .i .i64 l.length), (10, .i .i64 i)] ∧ σ = []) l.length ⟨0, by omega, by simp [leastBy], rfl⟩ ?_
  rintro m env σ ⟨i, hi, rfl, rfl⟩ K5 h5
  rw [ic80_0]
  refine ab_seq_k fun K6 h6 => ?_
  simp
  refine h6 _ _ _ ?_
  clear h6 K6
  refine ab_seq_k fun K7 h7 => ?_
  refine ab_cond_of rfl (fun hc => ?_) (fun hc => ?_)
  · have hil : i < l.length := by simpa using hc
    have hx : l[i]? = some (l.getD i (0, 0)) := by simp [List.getD_eq_getElem?_getD, List.getElem?_eq_getElem hil]
    obtain ⟨h02, h03⟩ := leastBy_spec (l := l) (i := i)
    have hkl : leastBy lexS l i < l.length := by omega
    have hy : l[leastBy lexS l i]? = some (l.getD (leastBy lexS l i) (0, 0)) := by simp [List.getD_eq_getElem?_getD, List.getElem?_eq_getElem hkl]
    have hstep : leastBy lexS l (i + 1) = if lexS (l.getD i (0, 0)) (l.getD (leastBy lexS l i) (0, 0)) = true then i else leastBy lexS l i := rfl
    generalize l.getD i (0, 0) = x at *
    generalize l.getD (leastBy lexS l i) (0, 0) = y at *
    generalize leastBy lexS l i = k at *
    obtain ⟨z1, z2, z3⟩ := lsV_get hx
    obtain ⟨y1, y2, y3⟩ := lsV_get hy
    have hm2 : min 2 (l.length * 2 - i * 2) = 2 := by omega
    have hle : i * 2 + 2 ≤ l.length * 2 := by omega
    have hmk : min 2 (l.length * 2 - k * 2) = 2 := by omega
    have hlk : k * 2 + 2 ≤ l.length * 2 := by omega
    simp
    refine h7 _ _ _ ?_
    clear h7 K7
    refine ab_seq_k fun K8 h8 => ?_
    refine ab_block_k fun K9 h9 => ?_
    have hend : ∀ env σ', get env 0 = slL l f → get env 1 = .f (.func 81) [] [] → get env 5 = .i .i64 (leastBy lexS l (i + 1)) → get env 8 = slL l f → get env 9 = .i .i64 l.length → get env 10 = .i .i64 i → K9 (some 0) env σ' := by
      intro env σ' w0 w1 w5 w8 w9 w10
      refine h9 _ _ _ ?_
      refine h8 _ _ _ ?_
      simp [w0, w1, w5, w8, w9, w10, wrap64 (x := (i : Int) + 1) (by omega) (by omega)]
      refine h5 _ _ _ (againF (m - 1) 1 0 (by omega) (Nat.le_refl _) (Nat.zero_le _) ⟨i + 1, by omega, ?_, by simp⟩)
      simp [frz]
    clear h8 h9
    refine ab_seq_k fun K10 h10 => ?_
    simp [z1, hil, hm2, hle]
    refine h10 _ _ _ ?_
    clear h10 K10
    refine ab_seq_k fun K11 h11 => ?_
    simp [abDs_consU, drU, recheck_cons, recheck_nil, rcK, IS.dst, hkl, y1, hmk, hlk]
    refine callK_of (FSpec.frame (less81 (a := x) (b := y)) (by simp [spotV]) rfl) ?_
    simp [abDs_consU, drU, recheck_cons, recheck_nil, rcK, IS.dst]
    refine h11 _ _ _ ?_
    clear h11 K11
    refine ab_cond_of rfl (fun hc2 => ?_) (fun hc2 => ?_)
    · have hlt : lexS x y = true := by simpa using hc2
      rw [if_pos hlt] at hstep
      simp
      exact hend _ _ rfl rfl (by simp [hstep]) rfl rfl rfl
    · have hlt : ¬ lexS x y = true := by simpa using hc2
      rw [if_neg hlt] at hstep
      simp
      exact hend _ _ rfl rfl (by simp [hstep]) rfl rfl rfl
  · have hil : i = l.length := by simp at hc; omega
    subst hil
    simp
    refine h4 _ _ _ ?_
    refine h2 _ _ _ ?_
    refine ab_seq_k fun K20 h20 => ?_
    simp
    refine h20 _ _ _ ?_
    clear h20 K20
    simp
    exact fin_of 1 (by simp [rs80])

/-! ### Spots -/
def spotsTo (T : Tw) (i : Nat) : List Sp := [(1, 0), (2, 0)] ++ (T.take i).flatMap raftS
theorem spotsTo_succ {T : Tw} {i : Nat} {p : Int × Int} (h : T[i]? = some p) : spotsTo T (i + 1) = spotsTo T i ++ raftS p := by
  simp [spotsTo, List.take_add_one, h]
theorem lsV_app {a b : List (Int × Int)} : lsV (a ++ b) = lsV a ++ lsV b := by
  induction a with
  | nil => rfl
  | cons x a ih => simp [lsV, ih]
theorem spotsTo_len {T : Tw} : ∀ {i : Nat}, i ≤ T.length → (spotsTo T i).length = 2 + 4 * i
  | 0, _ => rfl
  | i + 1, h => by
    rw [spotsTo_succ (List.getElem?_eq_getElem (by omega)), List.length_append, spotsTo_len (by omega)]
    simp [raftS]; omega
theorem frz_row {k n id ver m es : Nat} {σ : List O} {cs : List V} (h : σ[id]? = some (.row ver cs)) (hn : n ≤ id) (hl : cs.length = m * es) (hp : pureL cs = true) : frz (k + 2) n σ (.s id ver 0 m es) = .ss cs m false := by
  rw [frz]
  simp only [V.pure, Bool.false_eq_true, if_false, Nat.not_lt.2 hn, h]
  rw [if_pos ⟨trivial, by simp [hl]⟩]
  have e : List.take (m * es) (List.drop 0 cs) = cs := by rw [List.drop_zero]; exact List.take_of_length_le (by omega)
  rw [e, map_frz hp]
theorem spots_ok {T : Tw} {ft : Bool} {room : Int} {S H : List Int} {σ : List O} {id : Nat} (hb : TB T) (hl : T.length ≤ 12) (hn : 1 ≤ T.length) (hid : σ[id]? = some (.row 0 (canC T ft room S H))) :
    FSpec Try.prog 79 [.p id 0 0] σ (.ss (lsV (spotsL T)) (spotsL T).length false) σ := by
  refine fn79.specL mixed noIt_ok (fun hlt => ?_)
  rw [ic79]
  have hidl := (List.getElem?_eq_some_iff.1 hid).1
  have c0 : (canC T ft room S H)[0]? = some (slL T ft) := canC_get0
  refine ab_seq_k fun K1 h1 => ?_
  simp
  refine h1 _ _ _ ?_
  clear h1 K1
  refine ab_seq_k fun K2 h2 => ?_
  simp
  refine h2 _ _ _ ?_
  clear h2 K2
  refine ab_seq_k fun K3 h3 => ?_
  refine ab_seq_k fun K4 h4 => ?_
  simp [hid, c0]
  refine h4 _ _ _ ?_
  clear h4 K4
  refine ab_block_k fun K5 h5 => ?_
  refine ab_loop_k (fun m env σ' => ∃ (i : Nat) (v : V) (g : List O), i + m = T.length ∧ env = [(3, v), (13, slL T ft), (14, .i .i64 T.length), (15, .i .i64 i)] ∧ σ' = σ ++ g ∧ (i = 0 ∧ v = .ss (lsV (spotsTo T 0)) 2 true ∨ 1 ≤ i ∧ ∃ id ver, σ.length ≤ id ∧ v = .s id ver 0 (spotsTo T i).length 2 ∧ σ'[id]? = some (.row ver (lsV (spotsTo T i))))) T.length
    ⟨0, _, [], by omega, by simp; rfl, by simp, .inl ⟨rfl, rfl⟩⟩ ?_
  rintro m env σ' ⟨i, v, g, hi, rfl, rfl, hv⟩ K6 h6
  rw [ic79_0]
  refine ab_seq_k fun K7 h7 => ?_
  simp
  refine h7 _ _ _ ?_
  clear h7 K7
  refine ab_seq_k fun K8 h8 => ?_
  refine ab_cond_of rfl (fun hc => ?_) (fun hc => ?_)
  · have hil : i < T.length := by simpa using hc
    obtain ⟨p, hp⟩ : ∃ p, T[i]? = some p := ⟨_, List.getElem?_eq_getElem hil⟩
    obtain ⟨⟨b1, b2⟩, b3, b4⟩ := hb p (List.mem_of_getElem? hp)
    obtain ⟨z1, z2, z3⟩ := lsV_get hp
    have hm2 : min 2 (T.length * 2 - i * 2) = 2 := by omega
    have hle : i * 2 + 2 ≤ T.length * 2 := by omega
    have hnx := spotsTo_succ hp
    have hln := spotsTo_len (T := T) (i := i) (by omega)
    simp
    refine h8 _ _ _ ?_
    clear h8 K8
    refine ab_seq_k fun K9 h9 => ?_
    refine ab_block_k fun K10 h10 => ?_
    refine ab_seq_k fun K11 h11 => ?_
    simp [z1, hil, hm2, hle]
    refine h11 _ _ _ ?_
    clear h11 K11
    have hr : (σ ++ (g ++ [O.row 0 [V.i IntKind.i64 p.fst, V.i IntKind.i64 p.snd]]))[σ.length + g.length]? = some (O.row 0 [.i .i64 p.1, .i .i64 p.2]) := by
      rw [List.getElem?_append_right (by omega)]
      simp
    obtain ⟨hrl, hr'⟩ := List.getElem?_eq_some_iff.1 hr
    simp [hr, hr', wrap64 (x := p.1 + 1) (by omega) (by omega), wrap64 (x := p.2 + 1) (by omega) (by omega)]
    have hrow : lsV (spotsTo T i) ++ [V.i IntKind.i64 1, V.i IntKind.i64 p.fst, V.i IntKind.i64 2, V.i IntKind.i64 p.snd, V.i IntKind.i64 1, V.i IntKind.i64 (p.fst + 1), V.i IntKind.i64 2, V.i IntKind.i64 (p.snd + 1)] = lsV (spotsTo T (i + 1)) := by
      rw [hnx, lsV_app]; rfl
    have hln2 := spotsTo_len (T := T) (i := i + 1) (by omega)
    have hend : ∀ env id2 ver g', get env 3 = .s id2 ver 0 (spotsTo T (i + 1)).length 2 → get env 13 = slL T ft → get env 14 = .i .i64 T.length → get env 15 = .i .i64 i → σ.length ≤ id2 → (σ ++ g')[id2]? = some (.row ver (lsV (spotsTo T (i + 1)))) → K10 (some 0) env (σ ++ g') := by
      intro env id2 ver g' w3 w13 w14 w15 a1 a2
      refine h10 _ _ _ ?_
      refine h9 _ _ _ ?_
      simp [w3, w13, w14, w15, wrap64 (x := (i : Int) + 1) (by omega) (by omega)]
      exact h6 _ _ _ (again (m - 1) (by omega) ⟨i + 1, _, g', by omega, by simp, rfl, .inr ⟨by omega, id2, ver, a1, rfl, a2⟩⟩)
    rcases hv with ⟨rfl, rfl⟩ | ⟨hi1, id2, ver, hid2, rfl, hs⟩
    · have hl4 : (lsV (spotsTo T 0)).length = 4 := rfl
      simp only [appTo_ss]
      rw [hrow]
      refine ⟨hl4, by omega, ?_⟩
      rw [if_neg (by omega)]
      simp
      refine hend _ (σ.length + (g.length + 1)) 0 (g ++ [O.row 0 [V.i IntKind.i64 p.fst, V.i IntKind.i64 p.snd], O.row 0 (lsV (spotsTo T (0 + 1)))]) ?_ rfl rfl rfl (by omega) ?_
      · rw [hln2]; rfl
      · simp
    · have hs2 : (σ ++ (g ++ [O.row 0 [V.i IntKind.i64 p.fst, V.i IntKind.i64 p.snd]]))[id2]? = some (.row ver (lsV (spotsTo T i))) := by
        rw [← List.append_assoc]; exact app_get hs
      have hlt2 := (List.getElem?_eq_some_iff.1 hs2).1
      have hlc : (lsV (spotsTo T i)).length = (spotsTo T i).length * 2 := by simp
      simp only [appTo_s, hs2, rapp]
      refine ⟨trivial, trivial, by omega, by omega, ?_⟩
      rw [if_neg (by omega), List.drop_zero, hrow]
      have hgl : (σ ++ (g ++ [O.row 0 [V.i IntKind.i64 p.fst, V.i IntKind.i64 p.snd]])).set id2 (O.row (ver + 1) (lsV (spotsTo T (i + 1)))) = σ ++ (g ++ [O.row 0 [V.i IntKind.i64 p.fst, V.i IntKind.i64 p.snd]]).set (id2 - σ.length) (O.row (ver + 1) (lsV (spotsTo T (i + 1)))) :=
        List.set_append_right _ _ hid2
      have hgs := List.getElem?_set_self (a := O.row (ver + 1) (lsV (spotsTo T (i + 1)))) hlt2
      rw [hgl] at hgs
      rw [hgl, hln, show 2 + 4 * i + 4 = 2 + 4 * (i + 1) by omega, ← hln2]
      simp
      exact hend _ id2 (ver + 1) _ rfl rfl rfl rfl hid2 hgs
  · have hil : i = T.length := by simp at hc; omega
    subst hil
    have hsp : spotsTo T T.length = spotsL T := by simp [spotsTo, spotsL]
    rcases hv with ⟨h, -⟩ | ⟨-, id2, ver, hid2, rfl, hs⟩
    · omega
    rw [hsp] at hs
    simp
    refine h5 _ _ _ ?_
    refine h3 _ _ _ ?_
    refine ab_seq_k fun K20 h20 => ?_
    simp
    refine h20 _ _ _ ?_
    clear h20 K20
    simp
    obtain ⟨k0, hk0⟩ := hlt.cut
    refine fin_at (k0 + 2) σ.length (Nat.le_refl _) (by simp) ?_
    refine ⟨?_, hk0 _ (by omega) g⟩
    show frz (k0 + 2) σ.length (σ ++ g) (.s id2 ver 0 (spotsTo T T.length).length 2) = _
    rw [hsp]
    exact frz_row hs hid2 (by simp) (by simp)
end Go.Ab
