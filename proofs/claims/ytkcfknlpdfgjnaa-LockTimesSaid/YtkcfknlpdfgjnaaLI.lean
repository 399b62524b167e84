/- best: the walk. -/
import Derived.Test.YtkcfknlpdfgjnaaLH
set_option linter.unusedVariables false
set_option linter.unusedSimpArgs false
set_option maxHeartbeats 4000000
namespace Go.Ab
open Go Go.Proofs

theorem intsK_ints {l : List Int} : intsK .i64 (ints l) = some l := by
  induction l with
  | nil => rfl
  | cons x l ih => simp [ints] at ih ⊢; simp [intsK, ih]
theorem orders59 {id : Nat} {σ : List O} : FSpec Try.prog 59 [.p id 0 0] σ (.f (.func 75) [] [.p σ.length 0 0]) (σ ++ [.row 0 [.p id 0 0]]) := by
  refine fn59.spec mixed noIt_ok ?_
  rw [ic59]
  refine ab_seq_k fun K1 h1 => ?_
  simp
  refine h1 _ _ _ ?_
  clear h1 K1
  refine ab_seq_k fun K2 h2 => ?_
  simp
  refine h2 _ _ _ ?_
  clear h2 K2
  simp
  refine fin_all ?_
  simp [rs59]

/-- The heap while the orders go by. -/
structure HpO (σ0 : List O) (id : Nat) (T : Tw) (ft : Bool) (room : Int) (σ : List O) (ov : V) (tm : Int) : Prop where
  pre : ∃ S H, S.length = 7 ∧ H.length = 7 ∧ σ.take σ0.length = σ0.set id (.row 0 (canC T ft room S H))
  c0 : σ[σ0.length]? = some (.row 0 [.p id 0 0])
  c1 : σ[σ0.length + 1]? = some (.row 0 [ov])
  c2 : σ[σ0.length + 2]? = some (.row 0 [.i .i64 tm])
  c3 : σ[σ0.length + 3]? = some (.row 0 [.p id 0 0])
def OvIs (n0 n : Nat) (σ : List O) (ov : V) : Option (List Int) → Prop
  | none => ov = .ss [] 0 true
  | some p => ∃ id2, n0 + 4 ≤ id2 ∧ ov = .s id2 0 0 n 1 ∧ σ[id2]? = some (.row 0 (ints p))
section
variable {σ0 : List O} {id : Nat} {T : Tw} {ft : Bool} {room : Int} {σ : List O} {ov : V} {tm : Int}
theorem HpO.len (h : HpO σ0 id T ft room σ ov tm) : σ0.length + 4 ≤ σ.length := by
  have := (List.getElem?_eq_some_iff.1 h.c3).1
  omega
theorem HpO.can (h : HpO σ0 id T ft room σ ov tm) (hid : id < σ0.length) : ∃ S H, S.length = 7 ∧ H.length = 7 ∧ σ[id]? = some (.row 0 (canC T ft room S H)) := by
  obtain ⟨S, H, h1, h2, h3⟩ := h.pre
  refine ⟨S, H, h1, h2, ?_⟩
  have := congrArg (·[id]?) h3
  simp only [List.getElem?_take, hid, if_true] at this
  rw [this]
  exact List.getElem?_set_self hid
theorem HpO.app {g : List O} (h : HpO σ0 id T ft room σ ov tm) : HpO σ0 id T ft room (σ ++ g) ov tm := by
  obtain ⟨S, H, h1, h2, h3⟩ := h.pre
  refine ⟨⟨S, H, h1, h2, ?_⟩, app_get h.c0, app_get h.c1, app_get h.c2, app_get h.c3⟩
  rw [List.take_append_of_le_length (by have := h.len; omega)]
  exact h3
theorem HpO.setCan (h : HpO σ0 id T ft room σ ov tm) (hid : id < σ0.length) {S H : List Int} (h1 : S.length = 7) (h2 : H.length = 7) : HpO σ0 id T ft room (σ.set id (.row 0 (canC T ft room S H))) ov tm := by
  obtain ⟨S', H', -, -, h3⟩ := h.pre
  refine ⟨⟨S, H, h1, h2, ?_⟩, ?_, ?_, ?_, ?_⟩
  · rw [List.take_set, h3, List.set_set]
  · rw [List.getElem?_set_ne (by omega)]; exact h.c0
  · rw [List.getElem?_set_ne (by omega)]; exact h.c1
  · rw [List.getElem?_set_ne (by omega)]; exact h.c2
  · rw [List.getElem?_set_ne (by omega)]; exact h.c3
theorem HpO.setOv (h : HpO σ0 id T ft room σ ov tm) (ov' : V) : HpO σ0 id T ft room (σ.set (σ0.length + 1) (.row 0 [ov'])) ov' tm := by
  obtain ⟨S, H, h1, h2, h3⟩ := h.pre
  have := h.len
  refine ⟨⟨S, H, h1, h2, ?_⟩, ?_, ?_, ?_, ?_⟩
  · rw [List.take_set_of_le (by omega)]; exact h3
  · rw [List.getElem?_set_ne (by omega)]; exact h.c0
  · exact List.getElem?_set_self (by omega)
  · rw [List.getElem?_set_ne (by omega)]; exact h.c2
  · rw [List.getElem?_set_ne (by omega)]; exact h.c3
theorem HpO.setTm (h : HpO σ0 id T ft room σ ov tm) (tm' : Int) : HpO σ0 id T ft room (σ.set (σ0.length + 2) (.row 0 [.i .i64 tm'])) ov tm' := by
  obtain ⟨S, H, h1, h2, h3⟩ := h.pre
  have := h.len
  refine ⟨⟨S, H, h1, h2, ?_⟩, ?_, ?_, ?_, ?_⟩
  · rw [List.take_set_of_le (by omega)]; exact h3
  · rw [List.getElem?_set_ne (by omega)]; exact h.c0
  · rw [List.getElem?_set_ne (by omega)]; exact h.c1
  · exact List.getElem?_set_self (by omega)
  · rw [List.getElem?_set_ne (by omega)]; exact h.c3
end
theorem OvIs.app {n0 n : Nat} {σ g : List O} {ov : V} : ∀ {o : Option (List Int)}, OvIs n0 n σ ov o → OvIs n0 n (σ ++ g) ov o
  | none, h => h
  | some p, ⟨id2, h1, h2, h3⟩ => ⟨id2, h1, h2, app_get h3⟩
theorem OvIs.set {n0 n : Nat} {σ : List O} {ov : V} {i : Nat} {c : O} (hi : i < n0 + 4) : ∀ {o : Option (List Int)}, OvIs n0 n σ ov o → OvIs n0 n (σ.set i c) ov o
  | none, h => h
  | some p, ⟨id2, h1, h2, h3⟩ => ⟨id2, h1, h2, by rw [List.getElem?_set_ne (by omega)]; exact h3⟩
def tmOf (T : Tw) (room : Int) : Option (List Int) → Int
  | none => -1
  | some p => timeR T room p

theorem best_ok {T : Tw} {ft : Bool} {room : Int} {S H : List Int} {σ : List O} {id : Nat} (hct : checkTow T room = 0) (hp : ∀ o ∈ σ, PureO o) (hS : S.length = 7) (hH : H.length = 7) (hid : σ[id]? = some (.row 0 (canC T ft room S H))) :
    FSpec Try.prog 56 [.p id 0 0] σ (.ss (ints (bestO T room)) T.length false) (σ.set id (.row 0 (canR T ft room (runR T room (bestO T room))))) := by
  obtain ⟨n1, n7, tb, r0, r7⟩ := tow_len hct
  have hlt := (List.getElem?_eq_some_iff.1 hid).1
  obtain ⟨b1, b2, b3, b4⟩ := bestO_spec (T := T) (room := room)
  have hmem := fun p (hp : p ∈ ordersL T.length) => orders_mem hp
  refine fn56.spec mixed itT_ok ?_
  rw [ic56]
  refine ab_seq_k fun K1 h1 => ?_
  simp
  refine h1 _ _ _ ?_
  clear h1 K1
  refine ab_seq_k fun K2 h2 => ?_
  simp
  refine h2 _ _ _ ?_
  clear h2 K2
  refine ab_seq_k fun K3 h3 => ?_
  simp
  refine h3 _ _ _ ?_
  clear h3 K3
  refine ab_seq_k fun K4 h4 => ?_
  refine ab_seq_k fun K5 h5 => ?_
  simp
  refine callK_of orders59 ?_
  simp
  refine h5 _ _ _ ?_
  clear h5 K5
  refine ab_block_k fun K6 h6 => ?_
  have hstart : HpO σ id T ft room (σ ++ [O.row 0 [V.p id 0 0], O.row 0 [V.ss [] 0 true], O.row 0 [V.i IntKind.i64 (-1)], O.row 0 [V.p id 0 0]]) (.ss [] 0 true) (-1) := by
    refine ⟨⟨S, H, hS, hH, ?_⟩, by simp, by simp, by simp, by simp⟩
    rw [List.take_left]
    apply List.ext_getElem?
    intro j
    by_cases hj : j = id
    · subst hj; rw [List.getElem?_set_self hlt, hid]
    · rw [List.getElem?_set_ne (fun e => hj e.symm)]
  have hcat : ∀ {σ2 : List O} {ov : V} {tm : Int}, HpO σ id T ft room σ2 ov tm → CanAt T.length (σ.length + 3) id σ2 := by
    intro σ2 ov tm h
    obtain ⟨S', H', -, -, h3⟩ := h.can hlt
    exact ⟨h.c3, _, _, ft, h3, canC_get0⟩
  refine ⟨(picks T.length T.length []).length, XP T.length (picks T.length T.length []), CanAt T.length (σ.length + 3) id, orders_it (by omega) n1, fun i σ2 => ∃ ov tm, HpO σ id T ft room σ2 ov tm ∧ OvIs σ.length T.length σ2 ov (bestF (timeR T room) ((ordersL T.length).take i)) ∧ tm = tmOf T room (bestF (timeR T room) ((ordersL T.length).take i)),
    fun i σ2 ⟨ov, tm, h, _⟩ => hcat h, ⟨_, _, hstart, by simp [bestF, OvIs], rfl⟩, ?_, ?_⟩
  · rintro i x σ2 g hi ⟨p, hpi, rfl, rfl⟩ ⟨ov, tm, hq, hov, htm⟩
    have hpi' : (ordersL T.length)[i]? = some p := hpi
    obtain ⟨m1, m2, m3⟩ := hmem p (List.mem_of_getElem? hpi')
    have hstep := bestF_take (tm := timeR T room) hpi'
    refine ⟨rfl, ?_⟩
    generalize hKR : roundK _ _ _ = KR
    have hfin : ∀ env σ3 ov' tm', HpO σ id T ft room σ3 ov' tm' → OvIs σ.length T.length σ3 ov' (better (timeR T room) (bestF (timeR T room) ((ordersL T.length).take i)) p) → tm' = tmOf T room (better (timeR T room) (bestF (timeR T room) ((ordersL T.length).take i)) p) → KR (some 0) env σ3 := by
      intro env σ3 ov' tm' a1 a2 a3
      rw [← hKR]
      exact ⟨rfl, .inl ⟨ov', tm', a1, by rw [hstep]; exact a2, by rw [hstep]; exact a3⟩⟩
    clear hKR
    have hlen2 := hq.len
    have hqa := hq.app (g := [O.row 0 (ints p)])
    have hova := hov.app (g := [O.row 0 (ints p)])
    have hnew : (σ2 ++ [O.row 0 (ints p)])[σ2.length]? = some (.row 0 (ints p)) := by simp
    have hll : σ2.length < (σ2 ++ [O.row 0 (ints p)]).length := by simp
    generalize σ2 ++ [O.row 0 (ints p)] = U at *
    generalize σ2.length = il at *
    simp
    rw [ic56_0]
    refine ab_block_k fun K7 h7 => ?_
    obtain ⟨S2, H2, hS2, hH2, hcan⟩ := hqa.can hlt
    have c0 := hqa.c0
    refine ab_seq_k fun K8 h8 => ?_
    simp [c0]
    refine callK_of (run_ok (T := T) (ft := ft) (room := room) (o := p) (id := id) (ver := 0) tb r0 r7 hS2 hH2 hcan (.inr ⟨il, 0, by rw [m1], hnew⟩) (by intro a b c d h; cases h; omega) (by omega) m2) ?_
    simp
    refine h8 _ _ _ ?_
    clear h8 K8
    obtain ⟨l1, l2⟩ := runR_len (T := T) (room := room) (o := p)
    have hqb := hqa.setCan hlt (S := pad7 (runR T room p).secs) (H := pad7 (runR T room p).thrs) (pad7_len (by omega)) (pad7_len (by omega))
    have hovb := OvIs.set (c := .row 0 (canR T ft room (runR T room p))) (i := id) (by omega) hova
    have hnew2 : (U.set id (.row 0 (canR T ft room (runR T room p))))[il]? = some (.row 0 (ints p)) := by rw [List.getElem?_set_ne (by omega)]; exact hnew
    have hbnd := (runR_rb tb (room := room) (o := p)).last.1
    have hW : canC T ft room (pad7 (runR T room p).secs) (pad7 (runR T room p).thrs) = canR T ft room (runR T room p) := rfl
    rw [hW] at hqb
    generalize U.set id (.row 0 (canR T ft room (runR T room p))) = W at *
    have c1 := hqb.c1
    have c2 := hqb.c2
    have htp : (runR T room p).last = timeR T room p := rfl
    rw [htp] at *
    have hTb : ∀ q, 0 ≤ timeR T room q := fun q => (runR_rb tb (room := room) (o := q)).last.1
    refine ab_seq_k fun K9 h9 => ?_
    have hK9 : ∀ env v, get env 3 = .p (σ.length + 1) 0 0 → get env 4 = .p (σ.length + 2) 0 0 → get env 5 = .s il 0 0 T.length 1 → get env 6 = .i .i64 (timeR T room p) → get env 20 = .b v → (v = true → better (timeR T room) (bestF (timeR T room) ((ordersL T.length).take i)) p = some p) → (v = false → better (timeR T room) (bestF (timeR T room) ((ordersL T.length).take i)) p = bestF (timeR T room) ((ordersL T.length).take i)) → K9 (some 0) env W := by
      intro env v w3 w4 w5 w6 w20 hv1 hv2
      refine h9 _ _ _ ?_
      refine ab_cond_of w20 (fun hc => ?_) (fun hc => ?_)
      · have hb := hv1 hc
        have hw1 := hqb.setOv (.s il 0 0 T.length 1)
        have hw2 := hw1.setTm (timeR T room p)
        have d2 := hw1.c2
        simp [w3, w4, w5, w6, c1, d2]
        refine h7 _ _ _ (hfin _ _ _ _ hw2 ?_ ?_)
        · rw [hb]
          refine ⟨il, by omega, rfl, ?_⟩
          rw [List.getElem?_set_ne (by omega), List.getElem?_set_ne (by omega)]
          exact hnew2
        · rw [hb]; rfl
      · have hb := hv2 hc
        simp
        refine h7 _ _ _ (hfin _ _ _ _ hqb ?_ ?_)
        · rw [hb]; exact hovb
        · rw [hb]; exact htm
    cases ho : bestF (timeR T room) ((ordersL T.length).take i) with
    | none =>
      rw [ho] at htm hK9
      have ht : tm = -1 := htm
      subst ht
      simp [c2]
      exact hK9 _ true rfl rfl rfl rfl rfl (by simp [better]) (by simp)
    | some q =>
      rw [ho] at htm hK9
      have ht : tm = timeR T room q := htm
      have hq0 := hTb q
      have hng : ¬ tm < 0 := by omega
      simp [c2, hng]
      refine hK9 _ _ rfl rfl rfl rfl rfl ?_ ?_
      · rw [ht]
        simp only [decide_eq_true_eq, better]
        intro h; rw [if_pos h]
      · rw [ht]
        simp only [decide_eq_false_iff_not, better]
        intro h; rw [if_neg h]
  · rintro σ2 ⟨ov, tm, hq, hov, htm⟩
    have hall : (ordersL T.length).take (picks T.length T.length []).length = ordersL T.length := List.take_length
    rw [hall, b1] at hov
    obtain ⟨id2, hid2, rfl, hrow⟩ := hov
    obtain ⟨m1, m2, m3⟩ := hmem _ b2
    generalize hbd : bestO T room = p at *
    obtain ⟨S2, H2, hS2, hH2, hcan⟩ := hq.can hlt
    obtain ⟨S3, H3, -, -, hpre⟩ := hq.pre
    have hlen2 := hq.len
    have c0 := hq.c0
    have c1 := hq.c1
    refine h6 _ _ _ ?_
    refine h4 _ _ _ ?_
    clear h4 h6 K4 K6
    refine ab_seq_k fun K10 h10 => ?_
    simp [c0, c1]
    refine callK_of (run_ok (T := T) (ft := ft) (room := room) (o := p) (id := id) (ver := 0) tb r0 r7 hS2 hH2 hcan (.inr ⟨id2, 0, by rw [m1], hrow⟩) (by intro a b c d h; cases h; omega) (by omega) m2) ?_
    simp
    refine h10 _ _ _ ?_
    clear h10 K10
    obtain ⟨l1, l2⟩ := runR_len (T := T) (room := room) (o := p)
    have hpre' : (σ2.set id (.row 0 (canR T ft room (runR T room p)))).take σ.length = σ.set id (.row 0 (canR T ft room (runR T room p))) := by rw [List.take_set, hpre, List.set_set]
    have d0 : (σ2.set id (.row 0 (canR T ft room (runR T room p))))[σ.length]? = some (.row 0 [.p id 0 0]) := by rw [List.getElem?_set_ne (by omega)]; exact c0
    have d1 : (σ2.set id (.row 0 (canR T ft room (runR T room p))))[σ.length + 1]? = some (.row 0 [.s id2 0 0 T.length 1]) := by rw [List.getElem?_set_ne (by omega)]; exact c1
    have d2 : (σ2.set id (.row 0 (canR T ft room (runR T room p))))[id2]? = some (.row 0 (ints p)) := by rw [List.getElem?_set_ne (by omega)]; exact hrow
    have d3 : (σ2.set id (.row 0 (canR T ft room (runR T room p))))[id]? = some (.row 0 (canR T ft room (runR T room p))) := List.getElem?_set_self (by omega)
    generalize σ2.set id (.row 0 (canR T ft room (runR T room p))) = W at *
    have hH7 : (pad7 (runR T room p).secs).length = 7 := pad7_len (by omega)
    have hT7 : (pad7 (runR T room p).thrs).length = 7 := pad7_len (by omega)
    have hcl : (canR T ft room (runR T room p)).length = 16 := canC_len hH7 hT7
    have hend : ∀ W env, W.take σ.length = σ.set id (.row 0 (canR T ft room (runR T room p))) → W[σ.length + 1]? = some (.row 0 [.s id2 0 0 T.length 1]) → W[id2]? = some (.row 0 (ints p)) → get env 3 = .p (σ.length + 1) 0 0 →
        ab Try.prog noY ItT σ.length (.seq (.reg [.op (some 42) none (.load1 (.t 3)), .op (some 2) none (.mov (.t 42))] (some [2])) .ret) (finK rs56 σ (.ss (ints p) T.length false) (σ.set id (.row 0 (canR T ft room (runR T room p))))) [] (finK rs56 σ (.ss (ints p) T.length false) (σ.set id (.row 0 (canR T ft room (runR T room p))))) (some 0) env W := by
      intro W env e1 e2 e3 w3
      refine ab_seq_k fun K h => ?_
      simp [w3, e2]
      refine h _ _ _ ?_
      simp
      have hWl := (List.getElem?_eq_some_iff.1 e3).1
      refine fin_at 2 σ.length (Nat.le_refl _) (by omega) ?_
      refine ⟨?_, ?_⟩
      · show frz 2 σ.length W (.s id2 0 0 T.length 1) = _
        rw [← m1]
        exact frz_ints (k := 0) e3 (by omega)
      · have hb : (σ.set id (.row 0 (canR T ft room (runR T room p)))).length = σ.length := by simp
        have hW : W = σ.set id (.row 0 (canR T ft room (runR T room p))) ++ W.drop σ.length := by rw [← e1, List.take_append_drop]
        have key := frzS_pureL (k := 1) (base := σ.set id (.row 0 (canR T ft room (runR T room p)))) (g := W.drop σ.length) (fun o ho => by
          rcases List.mem_or_eq_of_mem_set ho with h | h
          · exact hp o h
          · rw [h]; exact pureO_row pure_canC)
        rw [hb, ← hW] at key
        exact key
    refine ab_seq_k fun K11 h11 => ?_
    refine ab_seq_k fun K12 h12 => ?_
    have htk : List.take 7 (List.drop 9 (canR T ft room (runR T room p))) = ints (pad7 (runR T room p).thrs) := by
      unfold canR canC
      have : List.drop 9 (slL T ft :: V.i .i64 room :: (ints (pad7 (runR T room p).secs) ++ ints (pad7 (runR T room p).thrs))) = ints (pad7 (runR T room p).thrs) := by
        rw [show (9 : Nat) = 7 + 1 + 1 by omega, List.drop_succ_cons, List.drop_succ_cons, List.drop_append_of_le_length (by simp [hH7]), List.drop_eq_nil_of_le (by simp [hH7])]
        rfl
      rw [this, List.take_of_length_le (by simp [hT7])]
    simp [d0, d3, hcl, htk, hT7, intsK_ints]
    refine h12 _ _ _ ?_
    clear h12 K12
    refine ab_cond_of rfl (fun hc => ?_) (fun hc => ?_)
    · have hz : pad7 (runR T room p).thrs = [0, 0, 0, 0, 0, 0, 0] := by simpa using hc
      have hz2 : ∀ x ∈ (runR T room p).thrs, x = 0 := by
        intro x hx
        have : x ∈ pad7 (runR T room p).thrs := List.mem_append_left _ hx
        rw [hz] at this
        simpa using this
      have hup : p = upTo T.length := by
        rw [← hbd]
        rw [← hbd] at hz2
        exact best_zero tb r0 hz2
      have hpg : ∀ i, i < T.length → (ints p).set i (.i .i64 (i : Int)) = ints p := by
        intro i hi
        rw [ints_set]
        congr 1
        have hg : p[i]? = some (i : Int) := by rw [hup]; exact upTo_get hi
        obtain ⟨g1, g2⟩ := List.getElem?_eq_some_iff.1 hg
        rw [← g2]
        exact List.set_getElem_self _
      refine ab_seq_k fun K13 h13 => ?_
      simp [d1, d2]
      refine h13 _ _ _ ?_
      clear h13 K13
      refine ab_block_k fun K14 h14 => ?_
      refine ab_loop_k (fun m env σ' => ∃ i : Nat, i + m = T.length ∧ env = [(3, .p (σ.length + 1) 0 0), (33, .i .i64 T.length), (34, .i .i64 i)] ∧ σ' = W) T.length ⟨0, by omega, by simp, rfl⟩ ?_
      rintro m env σ' ⟨i, hi, rfl, rfl⟩ K15 h15
      rw [ic56_1]
      refine ab_seq_k fun K16 h16 => ?_
      simp
      refine h16 _ _ _ ?_
      clear h16 K16
      refine ab_seq_k fun K17 h17 => ?_
      refine ab_cond_of rfl (fun hc2 => ?_) (fun hc2 => ?_)
      · have hin : i < T.length := by simpa using hc2
        simp
        refine h17 _ _ _ ?_
        clear h17 K17
        refine ab_seq_k fun K18 h18 => ?_
        refine ab_block_k fun K19 h19 => ?_
        refine ab_seq_k fun K20 h20 => ?_
        simp
        refine h20 _ _ _ ?_
        clear h20 K20
        have hWs : σ'.set id2 (.row 0 (ints p)) = σ' := by
          obtain ⟨g1, g2⟩ := List.getElem?_eq_some_iff.1 d2
          rw [← g2]
          exact List.set_getElem_self _
        have hil : i < p.length := by omega
        simp [d1, d2, hin, hil, hpg i hin, hWs]
        refine h19 _ _ _ ?_
        refine h18 _ _ _ ?_
        simp [wrap64 (x := (i : Int) + 1) (by omega) (by omega)]
        exact h15 _ _ _ (again (m - 1) (by omega) ⟨i + 1, by omega, by simp, rfl⟩)
      · simp
        refine h14 _ _ _ ?_
        refine h11 _ _ _ ?_
        exact hend _ _ hpre' d1 d2 rfl
    · simp
      refine h11 _ _ _ ?_
      exact hend _ _ hpre' d1 d2 rfl
end Go.Ab
