/- Bounds. -/
import Derived.Test.YtkcfknlpdfgjnaaLO
set_option linter.unusedVariables false
set_option linter.unusedSimpArgs false
set_option maxHeartbeats 4000000
namespace Go.Ab
open Go Go.Proofs

theorem Fn_.specL {P : Program} {It : ItTy} (hm : P.follows .mixedOrders = true) (hIt : ItOK P It) {f : FuncId} {fn : Func} {ex : List Nat} {ic : IC} {rs : List IRes} (h : Fn_ P f fn ex ic rs)
    {args : List V} {σ : List O} {v : V} {σ' : List O} (hab : LtAll σ → ab P noY It σ.length ic (finK rs σ v σ') [] (finK rs σ v σ') (some 0) (entry 0 args) σ) : FSpec P f args σ v σ' := by
  refine ⟨⟨fn, h.hf, h.hn, ?_⟩, fun C cargs hR ha => (h.spec hm hIt (hab hR.ltAll)).2 C cargs hR ha⟩
  have hc := h.hc
  cases hb : fn.body with
  | none => rw [hb] at hc; cases hc
  | some c => rfl
theorem fin_lt {rs : List IRes} {md : Md} {env : Env} {σ0 g : List O} {v : V} (hl : LtAll σ0) (h : resK rs env (σ0 ++ g) fun vs => retV vs = v ∧ ∀ k n σ, frz (k + 1) n σ v = v) : finK rs σ0 v σ0 md env (σ0 ++ g) := by
  obtain ⟨k0, hk0⟩ := hl.cut
  exact resK_mono h (fun vs h => .inl ⟨k0 + 1, σ0.length, Nat.le_refl _, by simp, by rw [h.1]; exact h.2 _ _ _, .inl (hk0 (k0 + 1) (by omega) g)⟩)

def sA (lock : Int) (p : Int × Int) : Int := if lock = 2 then p.2 else p.1
def sB (lock : Int) (p : Int × Int) : Int := if lock = 2 then p.1 else p.2
/-- One more raft in a bound. -/
def bstep (lock t : Int) (acc : Int × Bool) (p : Int × Int) : Int × Bool := if t ≤ sA lock p then (acc.1 + sB lock p, true) else (acc.1 + min (sA lock p) (sB lock p), acc.2)
theorem sA_b {lock : Int} {p : Int × Int} (hp : (0 ≤ p.1 ∧ p.1 ≤ 1000) ∧ 0 ≤ p.2 ∧ p.2 ≤ 1000) : (0 ≤ sA lock p ∧ sA lock p ≤ 1000) ∧ 0 ≤ sB lock p ∧ sB lock p ≤ 1000 := by
  unfold sA sB
  split <;> omega
def boundF (T : Tw) (lock t : Int) : Int × Bool := T.foldl (bstep lock t) (t, false)
theorem boundF_take {T : Tw} {lock t : Int} {i : Nat} {p : Int × Int} (h : T[i]? = some p) : (T.take (i + 1)).foldl (bstep lock t) (t, false) = bstep lock t ((T.take i).foldl (bstep lock t) (t, false)) p := by
  rw [List.take_add_one, h, List.foldl_append]; rfl
theorem bstep_le {lock t : Int} {acc : Int × Bool} {p : Int × Int} (hp : (0 ≤ p.1 ∧ p.1 ≤ 1000) ∧ 0 ≤ p.2 ∧ p.2 ≤ 1000) : acc.1 ≤ (bstep lock t acc p).1 ∧ (bstep lock t acc p).1 ≤ acc.1 + 1000 := by
  have h := sA_b (lock := lock) hp
  unfold bstep
  split <;> simp only <;> omega
theorem bfold_le {lock t : Int} : ∀ {T : Tw} {acc : Int × Bool}, TB T → acc.1 ≤ (T.foldl (bstep lock t) acc).1 ∧ (T.foldl (bstep lock t) acc).1 ≤ acc.1 + 1000 * T.length
  | [], acc, _ => by simp
  | p :: T, acc, hb => by
    have h1 := bstep_le (lock := lock) (t := t) (acc := acc) (hb p (List.mem_cons_self ..))
    have h2 := bfold_le (lock := lock) (t := t) (T := T) (acc := bstep lock t acc p) (fun q hq => hb q (List.mem_cons_of_mem _ hq))
    rw [List.foldl_cons, List.length_cons]
    omega

theorem boundOf_ok {T : Tw} {ft : Bool} {room lock t : Int} (hb : TB T) (hl : T.length ≤ 12) (ht0 : -1 ≤ t) (ht1 : t ≤ 100000) : FSpec Try.prog 68 [towV T ft room, .i .i64 lock, .i .i64 t] [] (.tup [.i .i64 (boundF T lock t).1, .b (boundF T lock t).2]) [] := by
  refine fn68.spec0 mixed noIt_ok ?_
  rw [ic68]
  refine ab_seq_k fun K1 h1 => ?_
  simp
  refine h1 _ _ _ ?_
  clear h1 K1
  refine ab_seq_k fun K2 h2 => ?_
  simp
  refine h2 _ _ _ ?_
  clear h2 K2
  refine ab_seq_k fun K3 h3 => ?_
  refine ab_seq_k fun K4 h4 => ?_
  simp
  refine h4 _ _ _ ?_
  clear h4 K4
  refine ab_block_k fun K5 h5 => ?_
  refine ab_loop_k (fun m env σ => ∃ i : Nat, i + m = T.length ∧ env = [(1, .i .i64 lock), (2, .i .i64 t), (3, .p 0 0 0), (8, .i .i64 ((T.take i).foldl (bstep lock t) (t, false)).1), (9, .b ((T.take i).foldl (bstep lock t) (t, false)).2), (10, .i .i64 i)] ∧ σ = [O.row 0 (towC T ft room)]) T.length ⟨0, by omega, by simp, rfl⟩ ?_
  rintro m env σ ⟨i, hi, rfl, rfl⟩ K6 h6
  rw [ic68_0]
  refine ab_seq_k fun K7 h7 => ?_
  refine ab_seq_k fun K8 h8 => ?_
  simp [get0_towC]
  refine h8 _ _ _ ?_
  clear h8 K8
  refine ab_cond_of rfl (fun hc => ?_) (fun hc => ?_)
  · have hil : i < T.length := by simpa using hc
    obtain ⟨p, hp⟩ : ∃ p, T[i]? = some p := ⟨_, List.getElem?_eq_getElem hil⟩
    obtain ⟨⟨b1, b2⟩, b3, b4⟩ := hb p (List.mem_of_getElem? hp)
    obtain ⟨z1, z2, z3⟩ := lsV_get hp
    have hstep := boundF_take (lock := lock) (t := t) hp
    have hfl := bfold_le (lock := lock) (t := t) (T := T.take i) (acc := (t, false)) (fun q hq => hb q (List.mem_of_mem_take hq))
    rw [show (T.take i).length = i by rw [List.length_take]; omega] at hfl
    generalize (T.take i).foldl (bstep lock t) (t, false) = acc at *
    obtain ⟨c, y⟩ := acc
    simp only at hfl
    simp
    refine h7 _ _ _ ?_
    clear h7 K7
    refine ab_seq_k fun K9 h9 => ?_
    refine ab_block_k fun K10 h10 => ?_
    have hab := sA_b (lock := lock) (hb p (List.mem_of_getElem? hp))
    have hend : ∀ env c' y', get env 1 = .i .i64 lock → get env 2 = .i .i64 t → get env 3 = .p 0 0 0 → get env 8 = .i .i64 c' → get env 9 = .b y' → get env 10 = .i .i64 i → (c', y') = bstep lock t (c, y) p → K10 (some 0) env [O.row 0 (towC T ft room)] := by
      intro env c' y' w1 w2 w3 w8 w9 w10 he
      refine h10 _ _ _ ?_
      refine h9 _ _ _ ?_
      simp [w1, w2, w3, w8, w9, w10, wrap64 (x := (i : Int) + 1) (by omega) (by omega)]
      exact h6 _ _ _ (again (m - 1) (by omega) ⟨i + 1, by omega, by simp [hstep, ← he], rfl⟩)
    obtain ⟨hz2, z2'⟩ := List.getElem?_eq_some_iff.1 z2
    obtain ⟨hz3, z3'⟩ := List.getElem?_eq_some_iff.1 z3
    refine ab_seq_k fun K11 h11 => ?_
    simp [get0_towC, z2, z2', z3, z3', hil]
    refine h11 _ _ _ ?_
    clear h11 K11
    refine ab_seq_k fun K12 h12 => ?_
    have hK12 : ∀ env, get env 1 = .i .i64 lock → get env 2 = .i .i64 t → get env 3 = .p 0 0 0 → get env 8 = .i .i64 c → get env 9 = .b y → get env 10 = .i .i64 i → get env 11 = .i .i64 (sA lock p) → get env 12 = .i .i64 (sB lock p) → K12 (some 0) env [O.row 0 (towC T ft room)] := by
      intro env w1 w2 w3 w8 w9 w10 w11 w12
      refine h12 _ _ _ ?_
      clear h12 K12
      refine ab_seq_k fun K13 h13 => ?_
      simp [w1, w2, w3, w8, w9, w10, w11, w12]
      refine h13 _ _ _ ?_
      clear h13 K13
      refine ab_cond_of rfl (fun hc2 => ?_) (fun hc2 => ?_)
      · have hge : t ≤ sA lock p := by simpa using hc2
        refine ab_seq_k fun K14 h14 => ?_
        simp [wrap64 (x := c + sB lock p) (by omega) (by omega)]
        refine h14 _ _ _ ?_
        simp
        exact hend _ _ _ rfl rfl rfl rfl rfl rfl (by rw [bstep, if_pos hge])
      · have hge : ¬ t ≤ sA lock p := by simpa using hc2
        simp [wrap64 (x := c + min (sA lock p) (sB lock p)) (by omega) (by omega)]
        exact hend _ _ _ rfl rfl rfl rfl rfl rfl (by rw [bstep, if_neg hge])
    clear h12
    refine ab_seq_k fun K15 h15 => ?_
    simp
    refine h15 _ _ _ ?_
    clear h15 K15
    refine ab_cond_of rfl (fun hc2 => ?_) (fun hc2 => ?_)
    · have h2 : lock = 2 := by simpa using hc2
      simp
      exact hK12 _ rfl rfl rfl rfl rfl rfl (by simp [sA, h2]) (by simp [sB, h2])
    · have h2 : ¬ lock = 2 := by simpa using hc2
      simp
      exact hK12 _ rfl rfl rfl rfl rfl rfl (by simp [sA, h2]) (by simp [sB, h2])
  · have hil : i = T.length := by simp at hc; omega
    subst hil
    rw [List.take_length]
    simp
    refine h5 _ _ _ ?_
    refine h3 _ _ _ ?_
    refine ab_seq_k fun K20 h20 => ?_
    simp
    refine h20 _ _ _ ?_
    clear h20 K20
    simp
    exact fin_of 1 (by simp [rs68, boundF])

def spotV (s : Int × Int) : V := .agg [.i .i64 s.1, .i .i64 s.2]
theorem bound_ok {T : Tw} {ft : Bool} {room lock t : Int} {S H : List Int} {σ : List O} {id : Nat} (hb : TB T) (hl : T.length ≤ 12) (ht0 : -1 ≤ t) (ht1 : t ≤ 100000) (hid : σ[id]? = some (.row 0 (canC T ft room S H))) :
    FSpec Try.prog 67 [.p id 0 0, spotV (lock, t)] σ (.tup [.i .i64 (boundF T lock t).1, .b (boundF T lock t).2]) σ := by
  refine fn67.specL mixed noIt_ok (fun hlt => ?_)
  rw [ic67]
  have hidl := (List.getElem?_eq_some_iff.1 hid).1
  have c0 : (canC T ft room S H)[0]? = some (slL T ft) := canC_get0
  unfold spotV
  refine ab_seq_k fun K1 h1 => ?_
  simp
  refine h1 _ _ _ ?_
  clear h1 K1
  refine ab_seq_k fun K2 h2 => ?_
  simp
  refine h2 _ _ _ ?_
  clear h2 K2
  have hgi : ∀ g : List O, (σ ++ g)[id]? = some (.row 0 (canC T ft room S H)) := fun g => app_get hid
  refine ab_seq_k fun K3 h3 => ?_
  refine ab_seq_k fun K4 h4 => ?_
  simp [hgi, c0]
  refine h4 _ _ _ ?_
  clear h4 K4
  refine ab_block_k fun K5 h5 => ?_
  refine ab_loop_k (fun m env σ' => ∃ i : Nat, i + m = T.length ∧ env = [(3, .p σ.length 0 0), (6, .i .i64 ((T.take i).foldl (bstep lock t) (t, false)).1), (7, .b ((T.take i).foldl (bstep lock t) (t, false)).2), (18, slL T ft), (19, .i .i64 T.length), (20, .i .i64 i)] ∧ ∃ g, σ' = σ ++ (O.row 0 [.i .i64 lock, .i .i64 t] :: g)) T.length ⟨0, by omega, by simp, [], rfl⟩ ?_
  rintro m env σ' ⟨i, hi, rfl, g, rfl⟩ K6 h6
  rw [ic67_0]
  have hbx : ∀ g : List O, (σ ++ (O.row 0 [.i .i64 lock, .i .i64 t] :: g))[σ.length]? = some (O.row 0 [.i .i64 lock, .i .i64 t]) := fun g => by simp
  refine ab_seq_k fun K7 h7 => ?_
  simp
  refine h7 _ _ _ ?_
  clear h7 K7
  refine ab_seq_k fun K8 h8 => ?_
  refine ab_cond_of rfl (fun hc => ?_) (fun hc => ?_)
  · have hil : i < T.length := by simpa using hc
    obtain ⟨p, hp⟩ : ∃ p, T[i]? = some p := ⟨_, List.getElem?_eq_getElem hil⟩
    obtain ⟨⟨b1, b2⟩, b3, b4⟩ := hb p (List.mem_of_getElem? hp)
    obtain ⟨z1, z2, z3⟩ := lsV_get hp
    have hstep := boundF_take (lock := lock) (t := t) hp
    have hfl := bfold_le (lock := lock) (t := t) (T := T.take i) (acc := (t, false)) (fun q hq => hb q (List.mem_of_mem_take hq))
    rw [show (T.take i).length = i by rw [List.length_take]; omega] at hfl
    generalize (T.take i).foldl (bstep lock t) (t, false) = acc at *
    obtain ⟨c, y⟩ := acc
    simp only at hfl
    have hab := sA_b (lock := lock) (hb p (List.mem_of_getElem? hp))
    simp
    refine h8 _ _ _ ?_
    clear h8 K8
    refine ab_seq_k fun K9 h9 => ?_
    refine ab_block_k fun K10 h10 => ?_
    have hend : ∀ env c' y' g', get env 3 = .p σ.length 0 0 → get env 6 = .i .i64 c' → get env 7 = .b y' → get env 18 = slL T ft → get env 19 = .i .i64 T.length → get env 20 = .i .i64 i → (c', y') = bstep lock t (c, y) p → K10 (some 0) env (σ ++ (O.row 0 [.i .i64 lock, .i .i64 t] :: g')) := by
      intro env c' y' g' w3 w6 w7 w18 w19 w20 he
      refine h10 _ _ _ ?_
      refine h9 _ _ _ ?_
      simp [w3, w6, w7, w18, w19, w20, wrap64 (x := (i : Int) + 1) (by omega) (by omega)]
      exact h6 _ _ _ (again (m - 1) (by omega) ⟨i + 1, by omega, by simp [hstep, ← he], g', rfl⟩)
    have hm2 : min 2 (T.length * 2 - i * 2) = 2 := by omega
    have hle : i * 2 + 2 ≤ T.length * 2 := by omega
    refine ab_seq_k fun K11 h11 => ?_
    simp [z1, hil, hm2, hle]
    refine h11 _ _ _ ?_
    clear h11 K11
    have hr : (σ ++ (O.row 0 [.i .i64 lock, .i .i64 t] :: (g ++ [O.row 0 [V.i IntKind.i64 p.fst, V.i IntKind.i64 p.snd]])))[σ.length + (g.length + 1)]? = some (O.row 0 [.i .i64 p.1, .i .i64 p.2]) := by
      rw [List.getElem?_append_right (by omega)]
      simp
    have hbx := hbx (g ++ [O.row 0 [V.i IntKind.i64 p.fst, V.i IntKind.i64 p.snd]])
    replace hend := fun env c' y' => hend env c' y' (g ++ [O.row 0 [V.i IntKind.i64 p.fst, V.i IntKind.i64 p.snd]])
    generalize (σ ++ (O.row 0 [.i .i64 lock, .i .i64 t] :: (g ++ [O.row 0 [V.i IntKind.i64 p.fst, V.i IntKind.i64 p.snd]]))) = W at *
    generalize σ.length + (g.length + 1) = rid at *
    obtain ⟨hrl, hr'⟩ := List.getElem?_eq_some_iff.1 hr
    refine ab_seq_k fun K12 h12 => ?_
    simp [hr, hr']
    refine h12 _ _ _ ?_
    clear h12 K12
    refine ab_seq_k fun K13 h13 => ?_
    have hK13 : ∀ env, get env 3 = .p σ.length 0 0 → get env 6 = .i .i64 c → get env 7 = .b y → get env 10 = .i .i64 (sA lock p) → get env 11 = .i .i64 (sB lock p) → get env 18 = slL T ft → get env 19 = .i .i64 T.length → get env 20 = .i .i64 i → K13 (some 0) env W := by
      intro env w3 w6 w7 w10 w11 w18 w19 w20
      refine h13 _ _ _ ?_
      clear h13 K13
      refine ab_seq_k fun K14 h14 => ?_
      refine ab_seq_k fun K15 h15 => ?_
      simp [w3, w6, w7, w10, w11, w18, w19, w20, hbx]
      refine h15 _ _ _ ?_
      clear h15 K15
      refine ab_cond_of rfl (fun hc2 => ?_) (fun hc2 => ?_)
      · have hlt2 : ¬ t ≤ sA lock p := by simp at hc2; omega
        refine ab_seq_k fun K16 h16 => ?_
        simp [wrap64 (x := c + min (sA lock p) (sB lock p)) (by omega) (by omega)]
        refine h16 _ _ _ ?_
        simp
        exact hend _ _ _ rfl rfl rfl rfl rfl rfl (by rw [bstep, if_neg hlt2])
      · have hlt2 : t ≤ sA lock p := by simp at hc2; omega
        simp
        refine h14 _ _ _ ?_
        clear h14 K14
        refine ab_seq_k fun K16 h16 => ?_
        simp [wrap64 (x := c + sB lock p) (by omega) (by omega)]
        refine h16 _ _ _ ?_
        simp
        exact hend _ _ _ rfl rfl rfl rfl rfl rfl (by rw [bstep, if_pos hlt2])
    clear h13
    refine ab_seq_k fun K15 h15 => ?_
    simp [hbx]
    refine h15 _ _ _ ?_
    clear h15 K15
    refine ab_cond_of rfl (fun hc2 => ?_) (fun hc2 => ?_)
    · have h2 : lock = 2 := by simpa using hc2
      simp
      exact hK13 _ rfl rfl rfl (by simp [sA, h2]) (by simp [sB, h2]) rfl rfl rfl
    · have h2 : ¬ lock = 2 := by simpa using hc2
      simp
      exact hK13 _ rfl rfl rfl (by simp [sA, h2]) (by simp [sB, h2]) rfl rfl rfl
  · have hil : i = T.length := by simp at hc; omega
    subst hil
    rw [List.take_length]
    simp
    refine h5 _ _ _ ?_
    refine h3 _ _ _ ?_
    refine ab_seq_k fun K20 h20 => ?_
    simp
    refine h20 _ _ _ ?_
    clear h20 K20
    simp
    refine fin_lt hlt ?_
    simp [rs67, boundF]

def boundE (T : Tw) (room lock t : Int) : Int :=
  if checkTow T room ≠ 0 then checkTow T room else if ¬ lock = 1 ∧ ¬ lock = 2 then 2 else if t < 0 ∨ 1000 < t then 3 else if (boundF T lock t).2 = false then 5 else 0
def boundP (T : Tw) (room lock t : Int) : Int × Int := if boundE T room lock t = 0 then ((boundF T lock t).1, 0) else (0, boundE T room lock t)
theorem refBound {T : Tw} {ft : Bool} {room lock t : Int} (hl : (T.length : Int) < 1000000000) : FSpec Try.prog 35 [towV T ft room, .i .i64 lock, .i .i64 t] [] (pairV (boundP T room lock t)) [] := by
  refine fn35.spec0 mixed noIt_ok ?_
  rw [ic35]
  have hct := fun σ => FSpec.frame (σ := σ) (refTow (T := T) (ft := ft) (room := room) hl) (by simp) rfl
  refine ab_seq_k fun K1 h1 => ?_
  simp
  refine h1 _ _ _ ?_
  clear h1 K1
  refine ab_seq_k fun K2 h2 => ?_
  refine ab_seq_k fun K3 h3 => ?_
  simp [take_towC]
  refine callK_of (hct _) ?_
  simp [take_towC]
  refine h3 _ _ _ ?_
  clear h3 K3
  refine ab_cond_of rfl (fun hc => ?_) (fun hc => ?_)
  · have hne : ¬ checkTow T room = 0 := by simpa using hc
    have hE : boundE T room lock t = checkTow T room := by simp [boundE, hne]
    refine ab_seq_k fun K4 h4 => ?_
    simp [take_towC]
    refine callK_of (hct _) ?_
    simp [take_towC]
    refine h4 _ _ _ ?_
    clear h4 K4
    simp
    exact fin_of 1 (by simp [rs35, boundP, hE, hne, pairV])
  have hct0 : checkTow T room = 0 := by simpa using hc
  obtain ⟨n1, n7, tb, r0, r7⟩ := tow_len hct0
  simp
  refine h2 _ _ _ ?_
  clear h2 K2
  refine ab_seq_k fun K5 h5 => ?_
  refine ab_seq_k fun K6 h6 => ?_
  by_cases hk : ¬ lock = 1 ∧ ¬ lock = 2
  · have hE : boundE T room lock t = 2 := by simp [boundE, hct0, hk.1, hk.2]
    simp [hk.1, hk.2]
    refine h6 _ _ _ ?_
    refine ab_cond_of rfl (fun hc => ?_) (fun hc => by cases hc)
    refine ab_seq_k fun K7 h7 => ?_
    simp
    refine h7 _ _ _ ?_
    clear h7 K7
    simp
    exact fin_of 1 (by simp [rs35, boundP, hE, pairV])
  · have hk2 : lock = 1 ∨ lock = 2 := by omega
    have hK6 : ∀ env, get env 1 = .i .i64 lock → get env 2 = .i .i64 t → get env 3 = .p 0 0 0 → get env 20 = .b false → K6 (some 0) env [O.row 0 (towC T ft room)] := by
      intro env w1 w2 w3 w20
      refine h6 _ _ _ ?_
      clear h6 K6
      refine ab_cond_of w20 (fun hc => by cases hc) (fun hc => ?_)
      simp [w1, w2, w3]
      refine h5 _ _ _ ?_
      clear h5 K5
      refine ab_seq_k fun K8 h8 => ?_
      refine ab_seq_k fun K9 h9 => ?_
      by_cases ht : t < 0 ∨ 1000 < t
      · have hE : boundE T room lock t = 3 := by simp [boundE, hct0, hk, ht]
        have hK9 : ∀ env, get env 26 = .b true → K9 (some 0) env [O.row 0 (towC T ft room)] := by
          intro env w26
          refine h9 _ _ _ ?_
          refine ab_cond_of w26 (fun hc => ?_) (fun hc => by cases hc)
          refine ab_seq_k fun K7 h7 => ?_
          simp
          refine h7 _ _ _ ?_
          clear h7 K7
          simp
          exact fin_of 1 (by simp [rs35, boundP, hE, pairV])
        by_cases ht1 : t < 0
        · simp [w1, w2, w3, ht1]
          exact hK9 _ rfl
        · have ht2 : 1000 < t := by omega
          simp [w1, w2, w3, ht1, ht2]
          exact hK9 _ rfl
      · have ht1 : ¬ t < 0 := by omega
        have ht2 : ¬ 1000 < t := by omega
        have hbd := fun σ => FSpec.frame (σ := σ) (boundOf_ok (T := T) (ft := ft) (room := room) (lock := lock) (t := t) tb (by omega) (by omega) (by omega)) (by simp) (by simp)
        simp [w1, w2, w3, ht1, ht2]
        refine h9 _ _ _ ?_
        clear h9 K9
        refine ab_cond_of rfl (fun hc => by cases hc) (fun hc => ?_)
        simp
        refine h8 _ _ _ ?_
        clear h8 K8
        refine ab_seq_k fun K10 h10 => ?_
        simp [take_towC]
        refine callK_of (hbd _) ?_
        simp [take_towC]
        refine h10 _ _ _ ?_
        clear h10 K10
        generalize hbf : boundF T lock t = bf at *
        obtain ⟨b1, b2⟩ := bf
        refine ab_seq_k fun K11 h11 => ?_
        refine ab_seq_k fun K12 h12 => ?_
        simp
        refine h12 _ _ _ ?_
        clear h12 K12
        cases b2 with
        | true =>
          have hE : boundE T room lock t = 0 := by simp [boundE, hct0, hk, ht, hbf]
          refine ab_cond_of rfl (fun hc => by cases hc) (fun hc => ?_)
          simp
          refine h11 _ _ _ ?_
          refine ab_seq_k fun K13 h13 => ?_
          simp
          refine h13 _ _ _ ?_
          clear h13 K13
          simp
          exact fin_of 1 (by simp [rs35, boundP, hE, hbf, pairV])
        | false =>
          have hE : boundE T room lock t = 5 := by simp [boundE, hct0, hk, ht, hbf]
          refine ab_cond_of rfl (fun hc => ?_) (fun hc => by cases hc)
          refine ab_seq_k fun K13 h13 => ?_
          simp
          refine h13 _ _ _ ?_
          clear h13 K13
          simp
          exact fin_of 1 (by simp [rs35, boundP, hE, pairV])
    by_cases hk1 : lock = 1
    · simp [hk1]
      exact hK6 _ (by simp [hk1]) rfl rfl rfl
    · have h2 : lock = 2 := by omega
      simp [hk1, h2]
      exact hK6 _ (by simp [h2]) rfl rfl rfl

theorem prgBound {T : Tw} {ft : Bool} {room lock t : Int} (hl : (T.length : Int) < 1000000000) : FSpec Try.prog 34 [towV T ft room, .i .i64 lock, .i .i64 t] [] (pairV (boundP T room lock t)) [] := by
  refine fn34.spec0 mixed noIt_ok ?_
  rw [ic34]
  refine ab_seq_k fun K1 h1 => ?_
  simp
  refine h1 _ _ _ ?_
  clear h1 K1
  by_cases hct0 : checkTow T room = 0
  · obtain ⟨n1, n7, tb, r0, r7⟩ := tow_len hct0
    refine ab_seq_k fun K2 h2 => ?_
    simp [take_towC]
    refine callK_of (open_ok hl hct0) ?_
    simp [take_towC]
    refine h2 _ _ _ ?_
    clear h2 K2
    refine ab_seq_k fun K3 h3 => ?_
    refine ab_block_k fun K4 h4 => ?_
    refine ab_seq_k fun K5 h5 => ?_
    simp
    refine h5 _ _ _ ?_
    clear h5 K5
    refine ab_cond_of rfl (fun h => by cases h) (fun _ => ?_)
    refine ab_seq_k fun K6 h6 => ?_
    by_cases hk : ¬ lock = 1 ∧ ¬ lock = 2
    · have hE : boundE T room lock t = 2 := by simp [boundE, hct0, hk.1, hk.2]
      simp [hk.1, hk.2]
      refine h6 _ _ _ ?_
      refine ab_cond_of rfl (fun hc => ?_) (fun hc => by cases hc)
      refine ab_seq_k fun K7 h7 => ?_
      simp
      refine h7 _ _ _ ?_
      clear h7 K7
      simp
      exact fin_of 1 (by simp [rs34, boundP, hE, pairV])
    · have hk2 : lock = 1 ∨ lock = 2 := by omega
      have hK6 : ∀ env, get env 1 = .i .i64 lock → get env 2 = .i .i64 t → get env 8 = .p 2 0 0 → get env 21 = .b false → K6 (some 0) env [O.row 0 (towC T ft room), O.row 0 (towC T ft room), O.row 0 (canC T ft room zer7 zer7)] := by
        intro env w1 w2 w8 w21
        refine h6 _ _ _ ?_
        clear h6 K6
        refine ab_cond_of w21 (fun hc => by cases hc) (fun hc => ?_)
        refine ab_seq_k fun K8 h8 => ?_
        simp [w1, w2, w8]
        refine callK_of within0 ?_
        by_cases ht : t < 0 ∨ 1000 < t
        · have hE : boundE T room lock t = 3 := by simp [boundE, hct0, hk, ht]
          have hf : fit 0 1000 t = false := by simp [fit]; omega
          simp [hf]
          refine h8 _ _ _ ?_
          refine ab_cond_of rfl (fun hc => ?_) (fun hc => by cases hc)
          refine ab_seq_k fun K7 h7 => ?_
          simp
          refine h7 _ _ _ ?_
          clear h7 K7
          simp
          exact fin_of 1 (by simp [rs34, boundP, hE, pairV])
        · have hf : fit 0 1000 t = true := by simp [fit]; omega
          have hbd := bound_ok (T := T) (ft := ft) (room := room) (lock := lock) (t := t) (S := zer7) (H := zer7) (σ := [O.row 0 (towC T ft room), O.row 0 (towC T ft room), O.row 0 (canC T ft room zer7 zer7)]) (id := 2) tb (by omega) (by omega) (by omega) rfl
          unfold spotV at hbd
          simp [hf]
          refine h8 _ _ _ ?_
          refine ab_cond_of rfl (fun hc => by cases hc) (fun hc => ?_)
          simp
          refine h4 _ _ _ ?_
          refine h3 _ _ _ ?_
          clear h3 h4 h8 K3 K4 K8
          refine ab_seq_k fun K9 h9 => ?_
          simp [w1, w2, w8]
          refine callK_of hbd ?_
          generalize hbf : boundF T lock t = bf at *
          obtain ⟨b1, b2⟩ := bf
          simp
          refine h9 _ _ _ ?_
          clear h9 K9
          refine ab_seq_k fun K11 h11 => ?_
          refine ab_seq_k fun K12 h12 => ?_
          simp
          refine h12 _ _ _ ?_
          clear h12 K12
          cases b2 with
          | true =>
            have hE : boundE T room lock t = 0 := by simp [boundE, hct0, hk, ht, hbf]
            refine ab_cond_of rfl (fun hc => by cases hc) (fun hc => ?_)
            simp
            refine h11 _ _ _ ?_
            refine ab_seq_k fun K13 h13 => ?_
            simp
            refine h13 _ _ _ ?_
            clear h13 K13
            simp
            exact fin_of 1 (by simp [rs34, boundP, hE, hbf, pairV])
          | false =>
            have hE : boundE T room lock t = 5 := by simp [boundE, hct0, hk, ht, hbf]
            refine ab_cond_of rfl (fun hc => ?_) (fun hc => by cases hc)
            refine ab_seq_k fun K13 h13 => ?_
            simp
            refine h13 _ _ _ ?_
            clear h13 K13
            simp
            exact fin_of 1 (by simp [rs34, boundP, hE, pairV])
      by_cases hk1 : lock = 1
      · simp [hk1]
        exact hK6 _ (by simp [hk1]) rfl rfl rfl
      · have h2 : lock = 2 := by omega
        simp [hk1, h2]
        exact hK6 _ (by simp [h2]) rfl rfl rfl
  · refine ab_seq_k fun K2 h2 => ?_
    simp [take_towC]
    refine callK_of (open_no hl hct0) ?_
    simp [take_towC]
    refine h2 _ _ _ ?_
    clear h2 K2
    have hE : boundE T room lock t = checkTow T room := by simp [boundE, hct0]
    refine ab_seq_k fun K3 h3 => ?_
    refine ab_block_k fun K4 h4 => ?_
    refine ab_seq_k fun K5 h5 => ?_
    simp
    refine h5 _ _ _ ?_
    clear h5 K5
    refine ab_cond_of rfl (fun _ => ?_) (fun h => by simp [hct0] at h)
    refine ab_seq_k fun K6 h6 => ?_
    simp
    refine h6 _ _ _ ?_
    clear h6 K6
    simp
    exact fin_of 1 (by simp [rs34, boundP, hE, hct0, pairV])
end Go.Ab
