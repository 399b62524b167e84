/- When rafts are through: run, ThroughOf. -/
import Derived.Test.YtkcfknlpdfgjnaaLC
set_option linter.unusedVariables false
set_option linter.unusedSimpArgs false
set_option maxHeartbeats 4000000
namespace Go.Ab
open Go Go.Proofs

structure RS where
  secs : List Int
  thrs : List Int
  free : Int
  last : Int
def raft (T : Tw) (i : Int) : Int × Int := T.getD i.toNat (0, 0)
def stepR (T : Tw) (room : Int) (s : RS) (i : Int) : RS :=
  { secs := s.secs ++ [max (s.free + (raft T i).1) s.last]
    thrs := s.thrs ++ [max (s.free + (raft T i).1) s.last + (raft T i).2]
    last := max (s.free + (raft T i).1) s.last + (raft T i).2
    free := if room ≤ (s.secs.length : Int) then max (s.free + (raft T i).1) ((s.secs ++ [max (s.free + (raft T i).1) s.last]).getD ((s.secs.length : Int) - room).toNat 0) else s.free + (raft T i).1 }
def runR (T : Tw) (room : Int) (o : List Int) : RS := o.foldl (stepR T room) ⟨[], [], 0, 0⟩
theorem runR_take {T : Tw} {room : Int} {o : List Int} {i : Nat} {x : Int} (h : o[i]? = some x) : runR T room (o.take (i + 1)) = stepR T room (runR T room (o.take i)) x := by
  unfold runR
  rw [List.take_add_one, h, List.foldl_append]; rfl
theorem runR_len {T : Tw} {room : Int} {o : List Int} : (runR T room o).secs.length = o.length ∧ (runR T room o).thrs.length = o.length := by
  unfold runR
  have : ∀ (o : List Int) (s : RS), (o.foldl (stepR T room) s).secs.length = s.secs.length + o.length ∧ (o.foldl (stepR T room) s).thrs.length = s.thrs.length + o.length := by
    intro o
    induction o with
    | nil => intro s; simp
    | cons x o ih => intro s; have := ih (stepR T room s x); simp only [List.foldl_cons, List.length_cons]; simp [stepR] at this; simp [stepR]; omega
  have := this o ⟨[], [], 0, 0⟩
  simpa using this
/-- All rafts are within bounds. -/
def TB (T : Tw) : Prop := ∀ p ∈ T, (0 ≤ p.1 ∧ p.1 ≤ 1000) ∧ 0 ≤ p.2 ∧ p.2 ≤ 1000
theorem raft_get {T : Tw} {x : Int} (h0 : 0 ≤ x) (h : x < T.length) : T[x.toNat]? = some (raft T x) ∧ raft T x ∈ T := by
  have hlt : x.toNat < T.length := by omega
  have : T[x.toNat]? = some (raft T x) := by unfold raft; rw [List.getD_eq_getElem?_getD, List.getElem?_eq_getElem hlt]; rfl
  exact ⟨this, List.mem_of_getElem? this⟩
theorem raft_tb {T : Tw} (hb : TB T) (x : Int) : (0 ≤ (raft T x).1 ∧ (raft T x).1 ≤ 1000) ∧ 0 ≤ (raft T x).2 ∧ (raft T x).2 ≤ 1000 := by
  unfold raft
  rw [List.getD_eq_getElem?_getD]
  cases h : T[x.toNat]? with
  | none => simp
  | some p => exact hb p (List.mem_of_getElem? h)
structure RB (s : RS) (M : Int) : Prop where
  secs : ∀ x ∈ s.secs, 0 ≤ x ∧ x ≤ M
  thrs : ∀ x ∈ s.thrs, 0 ≤ x ∧ x ≤ M
  free : 0 ≤ s.free ∧ s.free ≤ M
  last : 0 ≤ s.last ∧ s.last ≤ M
theorem getD_in {l : List Int} {M : Int} (h : ∀ x ∈ l, 0 ≤ x ∧ x ≤ M) (hM : 0 ≤ M) (i : Nat) : 0 ≤ l.getD i 0 ∧ l.getD i 0 ≤ M := by
  rw [List.getD_eq_getElem?_getD]
  cases hx : l[i]? with
  | none => simp; exact hM
  | some x => exact h x (List.mem_of_getElem? hx)
theorem RB.step {T : Tw} (hb : TB T) {room : Int} {s : RS} {M : Int} (h : RB s M) (x : Int) : RB (stepR T room s x) (M + 2000) := by
  obtain ⟨⟨a1, a2⟩, a3, a4⟩ := raft_tb hb x
  obtain ⟨h1, h2, h3, h4⟩ := h
  have e1 : ∀ y ∈ s.secs ++ [max (s.free + (raft T x).1) s.last], 0 ≤ y ∧ y ≤ M + 2000 := by
    intro y hy
    rcases List.mem_append.1 hy with hy | hy
    · have := h1 y hy; omega
    · simp at hy; omega
  have e2 := getD_in e1 (by omega) ((s.secs.length : Int) - room).toNat
  refine ⟨e1, fun y hy => ?_, ?_, ?_⟩
  · simp only [stepR] at hy
    rcases List.mem_append.1 hy with hy | hy
    · have := h2 y hy; omega
    · simp at hy; omega
  · simp only [stepR]; split <;> omega
  · simp only [stepR]; omega
theorem runR_rb {T : Tw} (hb : TB T) {room : Int} : ∀ {o : List Int}, RB (runR T room o) (o.length * 2000) := by
  intro o
  have : ∀ (o : List Int) (s : RS) (M : Int), RB s M → RB (o.foldl (stepR T room) s) (M + o.length * 2000) := by
    intro o
    induction o with
    | nil => intro s M h; simpa using h
    | cons x o ih =>
      intro s M h
      have := ih _ _ (h.step hb (room := room) x)
      rw [List.foldl_cons, List.length_cons]
      have e : M + 2000 + (o.length : Int) * 2000 = M + ((o.length + 1 : Nat) : Int) * 2000 := by push_cast; omega
      rw [← e]
      exact this
  have := this o ⟨[], [], 0, 0⟩ 0 ⟨by simp, by simp, by simp, by simp⟩
  simpa [runR] using this

/-! ### The canal's rows -/
def pad7 (l : List Int) : List Int := l ++ List.replicate (7 - l.length) 0
theorem pad7_len {l : List Int} (h : l.length ≤ 7) : (pad7 l).length = 7 := by simp [pad7]; omega
theorem pad7_nil : pad7 [] = zer7 := rfl
theorem pad7_set {l : List Int} {x : Int} (h : l.length < 7) : (pad7 l).set l.length x = pad7 (l ++ [x]) := by
  unfold pad7
  obtain ⟨k, hk⟩ : ∃ k, 7 - l.length = k + 1 := ⟨7 - l.length - 1, by omega⟩
  have hk2 : 7 - (l ++ [x]).length = k := by simp; omega
  rw [hk, hk2, List.replicate_succ, List.set_append_right _ _ (Nat.le_refl _)]
  simp
theorem pad7_get {l : List Int} {i : Nat} (h : i < l.length) : (pad7 l)[i]? = some (l.getD i 0) := by
  unfold pad7
  rw [List.getElem?_append_left h, List.getD_eq_getElem?_getD, List.getElem?_eq_getElem h]
  rfl
def canR (T : Tw) (ft : Bool) (room : Int) (s : RS) : List V := canC T ft room (pad7 s.secs) (pad7 s.thrs)
theorem canC_len {T ft room S H} (h1 : S.length = 7) (h2 : H.length = 7) : (canC T ft room S H).length = 16 := by simp [canC, h1, h2]
theorem canC_get0 {T ft room S H} : (canC T ft room S H)[0]? = some (slL T ft) := rfl
theorem canC_get1 {T ft room S H} : (canC T ft room S H)[1]? = some (.i .i64 room) := rfl
theorem canC_get2 {T ft room S H} {i : Nat} {x : Int} (h1 : S[i]? = some x) : (canC T ft room S H)[2 + i]? = some (.i .i64 x) := by
  have hlt := (List.getElem?_eq_some_iff.1 h1).1
  rw [canC, show 2 + i = i + 1 + 1 by omega, List.getElem?_cons_succ, List.getElem?_cons_succ, List.getElem?_append_left (by simpa using hlt), get_ints, h1]
  rfl
theorem canC_get9 {T ft room S H} {i : Nat} {x : Int} (hS : S.length = 7) (h1 : H[i]? = some x) : (canC T ft room S H)[9 + i]? = some (.i .i64 x) := by
  rw [canC, show 9 + i = 7 + i + 1 + 1 by omega, List.getElem?_cons_succ, List.getElem?_cons_succ, List.getElem?_append_right (by simp [hS]), len_ints, hS, show 7 + i - 7 = i by omega, get_ints, h1]
  rfl
theorem canC_set2 {T ft room S H} {i : Nat} {x : Int} (h : i < S.length) : (canC T ft room S H).set (2 + i) (.i .i64 x) = canC T ft room (S.set i x) H := by
  rw [canC, canC, show 2 + i = i + 1 + 1 by omega, List.set_cons_succ, List.set_cons_succ, List.set_append_left _ _ (by simpa using h), ints_set]
theorem canC_set9 {T ft room S H} {i : Nat} {x : Int} (hS : S.length = 7) : (canC T ft room S H).set (9 + i) (.i .i64 x) = canC T ft room S (H.set i x) := by
  rw [canC, canC, show 9 + i = 7 + i + 1 + 1 by omega, List.set_cons_succ, List.set_cons_succ, List.set_append_right _ _ (by simp [hS]), len_ints, hS, show 7 + i - 7 = i by omega, ints_set]
theorem canC_put2 {T ft room S H} (hS : S.length = 7) (hH : H.length = 7) : splice (canC T ft room S H) 2 (ints zer7) = canC T ft room zer7 H := by
  unfold splice canC
  simp [zer7, ints]
  have : List.drop 7 (ints S ++ ints H) = ints H := by rw [List.drop_append_of_le_length (by simp [hS]), List.drop_eq_nil_of_le (by simp [hS])]; rfl
  simpa [ints] using this
theorem canC_put9 {T ft room S H} (hS : S.length = 7) (hH : H.length = 7) : splice (canC T ft room S H) 9 (ints zer7) = canC T ft room S zer7 := by
  unfold splice canC
  simp [zer7, ints]
  have h1 : List.take 7 (ints S ++ ints H) = ints S := by rw [List.take_append_of_le_length (by simp [hS]), List.take_of_length_le (by simp [hS])]
  have h2 : List.drop 14 (ints S ++ ints H) = [] := List.drop_eq_nil_of_le (by simp [hS, hH])
  simp [ints] at h1 h2
  rw [h1]
  simp [h2]

theorem run_ok {T : Tw} {ft : Bool} {room : Int} {S H : List Int} {o : List Int} {ov : V} {σ : List O} {id ver : Nat} (hb : TB T) (hr0 : 0 ≤ room) (hr7 : room ≤ 7) (hS : S.length = 7) (hH : H.length = 7) (hid : σ[id]? = some (.row ver (canC T ft room S H)))
    (ho : SlI σ ov o) (hn : ∀ ver' off n es, ov ≠ .s id ver' off n es) (hol : o.length ≤ 7) (hox : ∀ x ∈ o, 0 ≤ x ∧ x < (T.length : Int)) :
    FSpec Try.prog 50 [.p id ver 0, ov] σ (.i .i64 (runR T room o).last) (σ.set id (.row ver (canR T ft room (runR T room o)))) := by
  refine fn50.spec mixed noIt_ok ?_
  rw [ic50]
  have hlt := (List.getElem?_eq_some_iff.1 hid).1
  have hSl : ∀ c, SlI (σ.set id c) ov o := by
    intro c
    rcases ho with h | ⟨i2, v2, rfl, h2⟩
    · exact .inl h
    · refine .inr ⟨i2, v2, rfl, ?_⟩
      rw [List.getElem?_set_ne]
      · exact h2
      · rintro rfl
        exact hn v2 0 o.length 1 rfl
  refine ab_seq_k fun K1 h1 => ?_
  simp
  refine h1 _ _ _ ?_
  clear h1 K1
  refine ab_seq_k fun K2 h2 => ?_
  have hcl := canC_len (T := T) (ft := ft) (room := room) hS hH
  have hs1 : ∀ c, (σ.set id c)[id]? = some c := fun c => List.getElem?_set_self hlt
  simp [hid, hcl, hs1]
  have he := canC_put9 (T := T) (ft := ft) (room := room) (S := zer7) (H := H) rfl hH
  rw [← canC_put2 (H := H) hS hH] at he
  simp [splice, zer7, ints] at he
  rw [he]
  refine h2 _ _ _ ?_
  clear h2 K2 he
  have hz : canC T ft room [0, 0, 0, 0, 0, 0, 0] [0, 0, 0, 0, 0, 0, 0] = canR T ft room (runR T room (o.take 0)) := rfl
  rw [hz]
  clear hz
  refine ab_seq_k fun K3 h3 => ?_
  simp
  refine h3 _ _ _ ?_
  clear h3 K3
  refine ab_seq_k fun K4 h4 => ?_
  refine ab_seq_k fun K5 h5 => ?_
  simp
  refine lenI (hSl _) ?_
  simp
  refine h5 _ _ _ ?_
  clear h5 K5
  refine ab_block_k fun K6 h6 => ?_
  refine ab_loop_k (fun m env σ' => ∃ i : Nat, i + m = o.length ∧ env = [(0, .p id ver 0), (5, .i .i64 (runR T room (o.take i)).free), (6, .i .i64 (runR T room (o.take i)).last), (18, ov), (19, .i .i64 o.length), (20, .i .i64 i)] ∧
      σ' = σ.set id (.row ver (canR T ft room (runR T room (o.take i))))) o.length ⟨0, by omega, by simp [runR], by simp⟩ ?_
  rintro m env σ' ⟨i, hi, rfl, rfl⟩ K7 h7
  rw [ic50_0]
  refine ab_seq_k fun K8 h8 => ?_
  simp
  refine h8 _ _ _ ?_
  clear h8 K8
  refine ab_seq_k fun K9 h9 => ?_
  refine ab_cond_of rfl (fun hc => ?_) (fun hc => ?_)
  · have hil : i < o.length := by simpa using hc
    obtain ⟨x, hx⟩ : ∃ x, o[i]? = some x := ⟨_, List.getElem?_eq_getElem hil⟩
    obtain ⟨hx0, hxT⟩ := hox x (List.mem_of_getElem? hx)
    obtain ⟨hr1, hr2⟩ := raft_get hx0 hxT
    obtain ⟨⟨b1, b2⟩, b3, b4⟩ := hb _ hr2
    have hrb := runR_rb hb (room := room) (o := o.take i)
    obtain ⟨hl1, hl2⟩ := runR_len (T := T) (room := room) (o := o.take i)
    have htl : (o.take i).length = i := by rw [List.length_take]; omega
    rw [htl] at hrb hl1 hl2
    have hstep := runR_take (T := T) (room := room) hx
    generalize hsd : runR T room (o.take i) = s at *
    obtain ⟨B1, B2, ⟨B3, B4⟩, B5, B6⟩ := hrb
    obtain ⟨z1, z2, z3⟩ := lsV_get hr1
    obtain ⟨hz2, z2'⟩ := List.getElem?_eq_some_iff.1 z2
    obtain ⟨hz3, z3'⟩ := List.getElem?_eq_some_iff.1 z3
    have hg := hs1 (.row ver (canR T ft room s))
    have hi7 : i < 7 := by omega
    have hi7' : (i : Int) < 7 := by omega
    have hp1 := pad7_len (l := s.secs) (by omega)
    have hp2 := pad7_len (l := s.thrs) (by omega)
    simp
    refine h9 _ _ _ ?_
    clear h9 K9
    refine ab_seq_k fun K10 h10 => ?_
    refine ab_block_k fun K11 h11 => ?_
    refine ab_seq_k fun K12 h12 => ?_
    simp
    refine ixsI (hSl _) hx ?_
    intro pa hpa
    simp
    refine hpa _ ?_
    simp
    refine h12 _ _ _ ?_
    clear h12 K12 hpa
    have c0 : (canR T ft room s)[0]? = some (slL T ft) := canC_get0
    have c1 : (canR T ft room s)[1]? = some (.i .i64 room) := canC_get1
    have hcl : (canR T ft room s).length = 16 := canC_len hp1 hp2
    refine ab_seq_k fun K13 h13 => ?_
    simp [hg, c0, hx0, hxT, z2, z2', wrap64 (x := s.free + (raft T x).1) (by omega) (by omega)]
    refine h13 _ _ _ ?_
    clear h13 K13
    refine ab_seq_k fun K14 h14 => ?_
    have hs2 : (canR T ft room s).set (2 + i) (.i .i64 (max (s.free + (raft T x).1) s.last)) = canC T ft room (pad7 (s.secs ++ [max (s.free + (raft T x).1) s.last])) (pad7 s.thrs) := by
      rw [canR, canC_set2 (by omega), ← hl1, pad7_set (by omega)]
    simp [hg, hcl, hi7, hi7', hs2]
    refine ⟨by omega, h14 _ _ _ ?_⟩
    clear h14 K14 hs2 c0 c1 hcl hg
    have hend : ∀ env σ', get env 0 = .p id ver 0 → get env 5 = .i .i64 (stepR T room s x).free → get env 6 = .i .i64 (stepR T room s x).last → get env 18 = ov → get env 19 = .i .i64 o.length → get env 20 = .i .i64 i → σ' = σ.set id (.row ver (canR T ft room (stepR T room s x))) → K11 (some 0) env σ' := by
      rintro env σ' w0 w5 w6 w18 w19 w20 rfl
      refine h11 _ _ _ ?_
      refine h10 _ _ _ ?_
      simp [w0, w5, w6, w18, w19, w20, wrap64 (x := (i : Int) + 1) (by omega) (by omega)]
      exact h7 _ _ _ (again (m - 1) (by omega) ⟨i + 1, by omega, by simp [hstep], by rw [hstep]⟩)
    clear h10 h11
    have hfree : (stepR T room s x).free = if room ≤ (i : Int) then max (s.free + (raft T x).1) ((s.secs ++ [max (s.free + (raft T x).1) s.last]).getD ((i : Int) - room).toNat 0) else s.free + (raft T x).1 := by rw [← hl1]; rfl
    have hlast : (stepR T room s x).last = max (s.free + (raft T x).1) s.last + (raft T x).2 := rfl
    have hcan : canR T ft room (stepR T room s x) = canC T ft room (pad7 (s.secs ++ [max (s.free + (raft T x).1) s.last])) (pad7 (s.thrs ++ [max (s.free + (raft T x).1) s.last + (raft T x).2])) := rfl
    rw [hfree, hlast, hcan] at hend
    clear hfree hlast hcan hstep
    have hgb : 0 ≤ max (s.free + (raft T x).1) s.last ∧ max (s.free + (raft T x).1) s.last ≤ 20000 := by omega
    generalize max (s.free + (raft T x).1) s.last = g at *
    have hdb : 0 ≤ s.free + (raft T x).1 ∧ s.free + (raft T x).1 ≤ 20000 := by omega
    generalize s.free + (raft T x).1 = dn at *
    have hS1 : (pad7 (s.secs ++ [g])).length = 7 := pad7_len (by simp; omega)
    have hSg : ∀ k, k ≤ i → (pad7 (s.secs ++ [g]))[k]? = some ((s.secs ++ [g]).getD k 0) := fun k hk => pad7_get (by simp; omega)
    have hSi : (s.secs ++ [g]).getD i 0 = g := by rw [← hl1]; simp
    generalize hS2 : s.secs ++ [g] = S2 at *
    have q0 : ∀ H, (canC T ft room (pad7 S2) H)[0]? = some (slL T ft) := fun H => rfl
    have q1 : ∀ H, (canC T ft room (pad7 S2) H)[1]? = some (.i .i64 room) := fun H => rfl
    have q2 : ∀ H k, k ≤ i → (canC T ft room (pad7 S2) H)[2 + k]? = some (.i .i64 (S2.getD k 0)) := fun H k hk => canC_get2 (hSg k hk)
    have qi : (canC T ft room (pad7 S2) (pad7 s.thrs))[2 + i]? = some (.i .i64 g) := by rw [q2 _ i (Nat.le_refl _), hSi]
    obtain ⟨hqi, qi'⟩ := List.getElem?_eq_some_iff.1 qi
    have ql : ∀ H : List Int, H.length = 7 → (canC T ft room (pad7 S2) H).length = 16 := fun H hH => canC_len hS1 hH
    have hg := fun H => hs1 (.row ver (canC T ft room (pad7 S2) H))
    refine ab_seq_k fun K15 h15 => ?_
    simp [hg, q0, hx0, hxT, z3, z3', hi7', qi, qi', wrap64 (x := g + (raft T x).2) (by omega) (by omega)]
    refine h15 _ _ _ ?_
    clear h15 K15
    have hlb : 0 ≤ g + (raft T x).2 ∧ g + (raft T x).2 ≤ 30000 := by omega
    generalize g + (raft T x).2 = ls at *
    have hs9 : (canC T ft room (pad7 S2) (pad7 s.thrs)).set (9 + i) (.i .i64 ls) = canC T ft room (pad7 S2) (pad7 (s.thrs ++ [ls])) := by
      rw [canC_set9 hS1, ← hl2, pad7_set (by omega)]
    refine ab_seq_k fun K16 h16 => ?_
    simp [hg, ql _ hp2, hi7', hs9]
    refine ⟨by omega, h16 _ _ _ ?_⟩
    clear h16 K16 hs9
    refine ab_seq_k fun K17 h17 => ?_
    simp
    refine h17 _ _ _ ?_
    clear h17 K17
    refine ab_seq_k fun K18 h18 => ?_
    simp [hg, q1]
    refine h18 _ _ _ ?_
    clear h18 K18
    refine ab_cond_of rfl (fun hc2 => ?_) (fun hc2 => ?_)
    · have hrm : room ≤ (i : Int) := by simpa using hc2
      rw [if_pos hrm] at hend
      obtain ⟨k, hk⟩ : ∃ k : Nat, (k : Int) = (i : Int) - room := ⟨((i : Int) - room).toNat, by omega⟩
      have hkn : ((i : Int) - room).toNat = k := by omega
      rw [hkn] at hend
      have hk7 : (i : Int) - room < 7 := by omega
      have hk0 : 0 ≤ (i : Int) - room := by omega
      have qk := q2 (pad7 (s.thrs ++ [ls])) k (by omega)
      obtain ⟨hqk, qk'⟩ := List.getElem?_eq_some_iff.1 qk
      simp [hg, q1, hk0, hk7, hkn, qk, qk', wrap64 (x := (i : Int) - room) (by omega) (by omega)]
      rw [List.getD_eq_getElem?_getD] at hend
      refine ⟨hrm, ?_⟩
      exact hend _ _ rfl rfl rfl rfl rfl rfl rfl
    · have hrm : ¬ room ≤ (i : Int) := by simpa using hc2
      rw [if_neg hrm] at hend
      simp
      exact hend _ _ rfl rfl rfl rfl rfl rfl rfl
  · have hil : i = o.length := by simp at hc; omega
    subst hil
    simp
    refine h6 _ _ _ ?_
    refine h4 _ _ _ ?_
    refine ab_seq_k fun K40 h40 => ?_
    simp
    refine h40 _ _ _ ?_
    clear h40 K40
    simp
    refine fin_all ?_
    simp [rs50]
end Go.Ab
