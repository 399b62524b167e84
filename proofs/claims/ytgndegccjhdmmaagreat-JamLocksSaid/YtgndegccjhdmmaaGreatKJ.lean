import Derived.Test.YtgndegccjhdmmaaGreatKB
/-! KJ: made of KJ KL -/
section
/- The library's choice of a pivot. -/
set_option linter.unusedVariables false
set_option linter.unusedSimpArgs false
set_option maxHeartbeats 4000000
set_option maxRecDepth 100000
namespace Go.Ab
open Go Go.Proofs

/-- A cell with a number. -/
structure CA (σ0 : List O) (sid : Nat) (s : Int) (σ : List O) : Prop where
  at_ : σ[sid]? = some (.row 0 [.i .i64 s])
  is_ : σ = σ0.set sid (.row 0 [.i .i64 s])
theorem set_same {σ : List O} {id : Nat} {o : O} (h : σ[id]? = some o) : σ = σ.set id o := by
  apply List.ext_getElem?
  intro j
  by_cases hj : j = id
  · subst hj; rw [List.getElem?_set_self (List.getElem?_eq_some_iff.1 h).1, h]
  · rw [List.getElem?_set_ne (fun e => hj e.symm)]
theorem CA.mk0 {σ : List O} {sid : Nat} {s : Int} (h : σ[sid]? = some (.row 0 [.i .i64 s])) : CA σ sid s σ := ⟨h, set_same h⟩
theorem CA.put {σ0 σ : List O} {sid : Nat} {s t : Int} (h : CA σ0 sid s σ) : CA σ0 sid t (σ.set sid (.row 0 [.i .i64 t])) := by
  obtain ⟨h1, h2⟩ := h
  refine ⟨List.getElem?_set_self (List.getElem?_eq_some_iff.1 h1).1, ?_⟩
  rw [h2, List.set_set]
theorem CA.other {σ0 σ : List O} {sid j : Nat} {s : Int} (h : CA σ0 sid s σ) (hj : j ≠ sid) : σ[j]? = σ0[j]? := by
  rw [h.is_, List.getElem?_set_ne (fun e => hj e.symm)]
theorem CA.trans {σ0 σ1 σ2 : List O} {sid : Nat} {s t : Int} (h : CA σ0 sid s σ1) (h2 : CA σ1 sid t σ2) : CA σ0 sid t σ2 := ⟨h2.at_, by rw [h2.is_, h.is_, List.set_set]⟩
theorem finQ_cut {rs : List IRes} {σ0 g : List O} {Q : V → List O → Prop} {md : Md} {env : Env} (h : resK rs env (σ0 ++ g) fun vs => Q (retV vs) σ0 ∧ (retV vs).pure = true) : finQ rs σ0 Q md env (σ0 ++ g) :=
  fun _ => resK_mono h fun vs h => ⟨_, _, h.1, .inl ⟨1, σ0.length, Nat.le_refl _, by simp, frz_pure h.2, .inr ⟨rfl, ⟨g, rfl⟩, rfl⟩⟩⟩

section
variable {cv : V} {D : V → Prop} {lt : V → V → Bool}
theorem ord2_ok {f : FuncId} {fn : Func} {ex : List Nat} (hf : Fn_ Tryz.prog f fn ex gord2 grord2) (hcmp : CmpOK cv D lt) {σ : List O} {id ver n a b sid : Nat} {s : Int} {F : Nat → V} (hD : ∀ k, k < n → D (F k)) (ha : a < n) (hb : b < n) (hσ : σ[id]? = some (.row ver (rowV n F))) (hs : σ[sid]? = some (.row 0 [.i .i64 s])) :
    FSpecQ Tryz.prog f [slV id ver n, .i .i64 a, .i .i64 b, .p sid 0 0, cv] σ (fun v σ' => ∃ (x y : Nat) (t : Int), v = .tup [.i .i64 x, .i .i64 y] ∧ ((x = a ∧ y = b) ∨ (x = b ∧ y = a)) ∧ CA σ sid t σ') := by
  refine hf.specQ mixed noIt_ok ?_
  rw [gord2]
  refine ab_seq_k fun K1 h1 => ?_
  simp
  refine h1 _ _ _ ?_
  clear h1 K1
  obtain ⟨hσ1, hσ'⟩ := List.getElem?_eq_some_iff.1 hσ
  obtain ⟨hs1, hs'⟩ := List.getElem?_eq_some_iff.1 hs
  refine ab_seq_k fun K2 h2 => ?_
  refine ab_seq_k fun K3 h3 => ?_
  simp [abDs_consU, drU, recheck_cons, recheck_nil, rcK, IS.dst, hσ, hσ', ha, hb, rowV_get]
  refine callv_cmp hcmp (hD _ hb) (hD _ ha) fun c hcc => ?_
  simp [abDs_consU, drU, recheck_cons, recheck_nil, rcK, IS.dst, hcc]
  refine h3 _ _ _ ?_
  cases hl : lt (F b) (F a) with
  | true =>
    refine ab_cond_of rfl (fun _ => ?_) (fun h => by cases h)
    refine ab_seq_k fun K4 h4 => ?_
    simp [hs, hs']
    refine h4 _ _ _ ?_
    refine ab_seq_k fun K5 h5 => ?_
    simp
    refine h5 _ _ _ ?_
    clear h5 K5
    simp
    refine fin_Q ?_
    simp [grord2]
    exact ⟨b, a, ⟨rfl, rfl⟩, .inr ⟨rfl, rfl⟩, _, (CA.mk0 hs).put⟩
  | false =>
    refine ab_cond_of rfl (fun h => by cases h) (fun _ => ?_)
    simp
    refine h2 _ _ _ ?_
    refine ab_seq_k fun K5 h5 => ?_
    simp
    refine h5 _ _ _ ?_
    clear h5 K5
    simp
    refine fin_Q ?_
    simp [grord2]
    exact ⟨a, b, ⟨rfl, rfl⟩, .inl ⟨rfl, rfl⟩, _, CA.mk0 hs⟩
theorem med_ok {f f2 : FuncId} {fn fn2 : Func} {ex ex2 : List Nat} (hf : Fn_ Tryz.prog f fn ex (gmed f2) grmed) (hf2 : Fn_ Tryz.prog f2 fn2 ex2 gord2 grord2) (hcmp : CmpOK cv D lt) {σ : List O} {id ver n a b c sid : Nat} {s : Int} {F : Nat → V} (hD : ∀ k, k < n → D (F k)) (ha : a < n) (hb : b < n) (hc : c < n) (hid : id ≠ sid) (hσ : σ[id]? = some (.row ver (rowV n F))) (hs : σ[sid]? = some (.row 0 [.i .i64 s])) :
    FSpecQ Tryz.prog f [slV id ver n, .i .i64 a, .i .i64 b, .i .i64 c, .p sid 0 0, cv] σ (fun v σ' => ∃ (x : Nat) (t : Int), v = .i .i64 x ∧ (x = a ∨ x = b ∨ x = c) ∧ CA σ sid t σ') := by
  refine hf.specQ mixed noIt_ok ?_
  rw [gmed]
  refine ab_seq_k fun K1 h1 => ?_
  simp
  refine h1 _ _ _ ?_
  clear h1 K1
  refine ab_seq_k fun K2 h2 => ?_
  simp
  refine callR_of (ord2_ok hf2 hcmp hD ha hb hσ hs) ?_
  rintro v σ1 ⟨x1, y1, t1, rfl, hxy1, k1⟩
  simp
  refine h2 _ _ _ ?_
  clear h2 K2
  refine ab_seq_k fun K2 h2 => ?_
  simp
  refine callR_of (ord2_ok hf2 hcmp (a := y1) (b := c) hD (by omega) hc (by rw [k1.other hid]; exact hσ) k1.at_) ?_
  rintro v σ2 ⟨x2, y2, t2, rfl, hxy2, k2⟩
  simp
  refine h2 _ _ _ ?_
  clear h2 K2
  have k12 := k1.trans k2
  refine ab_seq_k fun K2 h2 => ?_
  simp
  refine callR_of (ord2_ok hf2 hcmp (a := x1) (b := x2) hD (by omega) (by omega) (by rw [k12.other hid]; exact hσ) k12.at_) ?_
  rintro v σ3 ⟨x3, y3, t3, rfl, hxy3, k3⟩
  simp
  refine h2 _ _ _ ?_
  clear h2 K2
  refine ab_seq_k fun K5 h5 => ?_
  simp
  refine h5 _ _ _ ?_
  clear h5 K5
  simp
  refine fin_Q ?_
  simp [grmed]
  exact ⟨y3, rfl, by omega, t3, k12.trans k3⟩
theorem madj_ok {f f1 f2 : FuncId} {fn fn1 fn2 : Func} {ex ex1 ex2 : List Nat} (hf : Fn_ Tryz.prog f fn ex (gmadj f1) grmadj) (hf1 : Fn_ Tryz.prog f1 fn1 ex1 (gmed f2) grmed) (hf2 : Fn_ Tryz.prog f2 fn2 ex2 gord2 grord2) (hcmp : CmpOK cv D lt) {σ : List O} {id ver n a sid : Nat} {s : Int} {F : Nat → V} (hD : ∀ k, k < n → D (F k)) (ha : a + 2 < n) (hn : n ≤ 1000000) (hid : id ≠ sid) (hσ : σ[id]? = some (.row ver (rowV n F))) (hs : σ[sid]? = some (.row 0 [.i .i64 s])) :
    FSpecQ Tryz.prog f [slV id ver n, .i .i64 ((a + 1 : Nat) : Int), .p sid 0 0, cv] σ (fun v σ' => ∃ (x : Nat) (t : Int), v = .i .i64 x ∧ a ≤ x ∧ x ≤ a + 2 ∧ CA σ sid t σ') := by
  refine hf.specQ mixed noIt_ok ?_
  rw [gmadj]
  refine ab_seq_k fun K1 h1 => ?_
  simp
  refine h1 _ _ _ ?_
  clear h1 K1
  refine ab_seq_k fun K2 h2 => ?_
  simp [wrap64 (x := (a : Int)) (by omega) (by omega), wrap64 (x := (a : Int) + 1 + 1) (by omega) (by omega)]
  refine callR_of (med_ok hf1 hf2 hcmp (a := a) (b := a + 1) (c := a + 1 + 1) hD (by omega) (by omega) (by omega) hid hσ hs) ?_
  rintro v σ1 ⟨x1, t1, rfl, hx, k1⟩
  simp
  refine h2 _ _ _ ?_
  simp
  refine fin_Q ?_
  simp [grmadj]
  exact ⟨x1, rfl, by omega, by omega, t1, k1⟩

theorem piv_ok {f f0 f1 f2 : FuncId} {fn fn0 fn1 fn2 : Func} {ex ex0 ex1 ex2 : List Nat} (hf : Fn_ Tryz.prog f fn ex (gpiv f0 f1) grpiv) (hf0 : Fn_ Tryz.prog f0 fn0 ex0 (gmadj f1) grmadj) (hf1 : Fn_ Tryz.prog f1 fn1 ex1 (gmed f2) grmed) (hf2 : Fn_ Tryz.prog f2 fn2 ex2 gord2 grord2) (hcmp : CmpOK cv D lt) {σ : List O} {id ver n a b : Nat} {F : Nat → V} (hD : ∀ k, k < n → D (F k)) (hab : a + 8 ≤ b) (hbn : b ≤ n) (hn : n ≤ 1000000) (hσ : σ[id]? = some (.row ver (rowV n F))) :
    FSpecQ Tryz.prog f [slV id ver n, .i .i64 a, .i .i64 b, cv] σ (fun v σ' => ∃ (x : Nat) (h : Int), v = .tup [.i .i64 x, .i .i64 h] ∧ a ≤ x ∧ x < b ∧ σ' = σ) := by
  have hidl := (List.getElem?_eq_some_iff.1 hσ).1
  refine hf.specQ mixed noIt_ok ?_
  rw [gpiv]
  refine ab_seq_k fun K1 h1 => ?_
  simp
  refine h1 _ _ _ ?_
  clear h1 K1
  obtain ⟨l, hl⟩ : ∃ l, l = b - a := ⟨_, rfl⟩
  obtain ⟨q, hq⟩ : ∃ q, q = l / 4 := ⟨_, rfl⟩
  have e1 : IntKind.i64.wrap ((b : Int) - a) = l := by rw [wrap64 (by omega) (by omega)]; omega
  have e2 : IntKind.i64.wrap ((l : Int).tdiv 4) = q := by
    have : (l : Int).tdiv 4 = ((l / 4 : Nat) : Int) := rfl
    rw [this, wrap64 (by omega) (by omega), hq]
  have e2' : IntKind.i64.wrap ((l : Int) / 4) = q := by rw [wrap64 (by omega) (by omega)]; omega
  have e0 : IntKind.i64.wrap (q : Int) = q := wrap64 (by omega) (by omega)
  obtain ⟨i, hi⟩ : ∃ i, i + 1 = a + q := ⟨a + q - 1, by omega⟩
  obtain ⟨j, hj⟩ : ∃ j, j + 1 = a + q * 2 := ⟨a + q * 2 - 1, by omega⟩
  obtain ⟨k, hk⟩ : ∃ k, k + 1 = a + q * 3 := ⟨a + q * 3 - 1, by omega⟩
  have e3 : IntKind.i64.wrap ((a : Int) + q) = ((i + 1 : Nat) : Int) := by rw [wrap64 (by omega) (by omega)]; omega
  have e4 : IntKind.i64.wrap ((q : Int) * 2) = (q : Int) * 2 := wrap64 (by omega) (by omega)
  have e5 : IntKind.i64.wrap ((q : Int) * 3) = (q : Int) * 3 := wrap64 (by omega) (by omega)
  have e6 : IntKind.i64.wrap ((a : Int) + (q : Int) * 2) = ((j + 1 : Nat) : Int) := by rw [wrap64 (by omega) (by omega)]; omega
  have e7 : IntKind.i64.wrap ((a : Int) + (q : Int) * 3) = ((k + 1 : Nat) : Int) := by rw [wrap64 (by omega) (by omega)]; omega
  simp only [Int.natCast_add, Int.natCast_one] at e3 e6 e7
  refine ab_seq_k fun K2 h2 => ?_
  simp [e1]
  refine h2 _ _ _ ?_
  clear h2 K2
  refine ab_seq_k fun K3 h3 => ?_
  simp
  refine h3 _ _ _ ?_
  clear h3 K3
  have s0 := getL (g := [O.row 0 [V.i .i64 0]]) hσ
  have s1 : (σ ++ [O.row 0 [V.i .i64 0]])[σ.length]? = some (O.row 0 [V.i .i64 0]) := by simp
  have hca : CA (σ ++ [O.row 0 [V.i .i64 0]]) σ.length 0 (σ ++ [O.row 0 [V.i .i64 0]]) := CA.mk0 s1
  have hne : id ≠ σ.length := by omega
  refine ab_seq_k fun K4 h4 => ?_
  simp [e2, e2', e0, e3]
  refine h4 _ _ _ ?_
  clear h4 K4
  refine ab_seq_k fun K5 h5 => ?_
  simp [e2, e2', e4, e6]
  refine h5 _ _ _ ?_
  clear h5 K5
  refine ab_seq_k fun K6 h6 => ?_
  simp [e2, e2', e5, e7]
  refine h6 _ _ _ ?_
  clear h6 K6
  refine ab_seq_k fun K7 h7 => ?_
  refine ab_seq_k fun K8 h8 => ?_
  simp
  refine h8 _ _ _ ?_
  clear h8 K8
  refine ab_cond_of rfl (fun _ => ?_) (fun h => by simp at h; omega)
  -- the end
  have hK7 : ∀ env (x : Nat) (s : Int) τ, get env 11 = .p σ.length 0 0 → get env 13 = .i .i64 x → a ≤ x → x < b → CA (σ ++ [O.row 0 [V.i .i64 0]]) σ.length s τ → K7 (some 0) env τ := by
    intro env x s τ w11 w13 hx1 hx2 hca
    have hτ : τ = σ ++ [O.row 0 [V.i .i64 s]] := by rw [hca.is_]; simp
    have hat := hca.at_
    obtain ⟨hat1, hat'⟩ := List.getElem?_eq_some_iff.1 hat
    refine h7 _ _ _ ?_
    clear h7
    refine ab_seq_k fun K9 h9 => ?_
    simp [w11, w13, hat, hat']
    refine h9 _ _ _ ?_
    clear h9 K9
    refine ab_block_k fun K10 h10 => ?_
    refine ab_seq_k fun K11 h11 => ?_
    simp
    refine h11 _ _ _ ?_
    clear h11 K11
    by_cases h0 : s = 0
    · refine ab_cond_of rfl (fun _ => ?_) (fun h => by simp [h0] at h)
      refine ab_seq_k fun K12 h12 => ?_
      simp
      refine h12 _ _ _ ?_
      clear h12 K12
      rw [hτ]
      simp
      refine finQ_cut ?_
      simp [grpiv]
      exact ⟨x, rfl, hx1, hx2⟩
    · refine ab_cond_of rfl (fun h => by simp [h0] at h) (fun _ => ?_)
      refine ab_seq_k fun K13 h13 => ?_
      simp
      refine h13 _ _ _ ?_
      by_cases h12 : s = 12
      · refine ab_cond_of rfl (fun _ => ?_) (fun h => by simp [h12] at h)
        refine ab_seq_k fun K12 h12 => ?_
        simp
        refine h12 _ _ _ ?_
        clear h12 K12
        rw [hτ]
        simp
        refine finQ_cut ?_
        simp [grpiv]
        exact ⟨x, rfl, hx1, hx2⟩
      · refine ab_cond_of rfl (fun h => by simp [h12] at h) (fun _ => ?_)
        refine ab_seq_k fun K12 h12 => ?_
        simp
        refine h12 _ _ _ ?_
        clear h12 K12
        rw [hτ]
        simp
        refine finQ_cut ?_
        simp [grpiv]
        exact ⟨x, rfl, hx1, hx2⟩
  clear h7
  refine ab_seq_k fun K14 h14 => ?_
  have hK14 : ∀ env (x y z : Nat) (s : Int) τ, get env 0 = slV id ver n → get env 3 = cv → get env 11 = .p σ.length 0 0 → get env 12 = .i .i64 x → get env 13 = .i .i64 y → get env 14 = .i .i64 z → (a ≤ x ∧ x < b) → (a ≤ y ∧ y < b) → (a ≤ z ∧ z < b) → CA (σ ++ [O.row 0 [V.i .i64 0]]) σ.length s τ → K14 (some 0) env τ := by
    intro env x y z s τ w0 w3 w11 w12 w13 w14 hx hy hz hca
    refine h14 _ _ _ ?_
    simp [w0, w3, w11, w12, w13, w14]
    refine callR_of (med_ok hf1 hf2 hcmp (a := x) (b := y) (c := z) (s := s) hD (by omega) (by omega) (by omega) hne (by rw [hca.other hne]; exact s0) hca.at_) ?_
    rintro v τ2 ⟨x1, t1, rfl, hx1, k1⟩
    simp
    exact hK7 _ x1 t1 _ (by simp [w11]) rfl (by omega) (by omega) (hca.trans k1)
  clear h14 hK7
  refine ab_seq_k fun K15 h15 => ?_
  simp
  refine h15 _ _ _ ?_
  clear h15 K15
  by_cases h50 : 50 ≤ l
  · refine ab_cond_of rfl (fun _ => ?_) (fun h => by simp at h; omega)
    refine ab_seq_k fun K16 h16 => ?_
    simp
    refine callR_of (madj_ok hf0 hf1 hf2 hcmp (a := i) (s := 0) hD (by omega) hn hne s0 s1) ?_
    rintro v τ1 ⟨x1, t1, rfl, hx1, hx1', k1⟩
    simp
    refine h16 _ _ _ ?_
    clear h16 K16
    refine ab_seq_k fun K16 h16 => ?_
    simp
    refine callR_of (madj_ok hf0 hf1 hf2 hcmp (a := j) (s := t1) hD (by omega) hn hne (by rw [k1.other hne]; exact s0) k1.at_) ?_
    rintro v τ2 ⟨x2, t2, rfl, hx2, hx2', k2⟩
    simp
    refine h16 _ _ _ ?_
    clear h16 K16
    have k12 := k1.trans k2
    simp
    refine callR_of (madj_ok hf0 hf1 hf2 hcmp (a := k) (s := t2) hD (by omega) hn hne (by rw [k12.other hne]; exact s0) k12.at_) ?_
    rintro v τ3 ⟨x3, t3, rfl, hx3, hx3', k3⟩
    simp
    exact hK14 _ x1 x2 x3 t3 _ rfl rfl rfl rfl rfl rfl (by omega) (by omega) (by omega) (k12.trans k3)
  · refine ab_cond_of rfl (fun h => by simp at h; omega) (fun _ => ?_)
    simp
    exact hK14 _ (i + 1) (j + 1) (k + 1) 0 _ rfl rfl rfl rfl rfl rfl (by omega) (by omega) (by omega) hca
end
end Go.Ab
end

section
/- The library's breaking of patterns: what it draws stays within the slice. -/
set_option linter.unusedVariables false
set_option linter.unusedSimpArgs false
set_option maxHeartbeats 4000000
set_option maxRecDepth 100000
namespace Go.Ab
open Go Go.Proofs

theorem sidx_tab {s : ByteArray} {n : Nat} {k : IntKind} {b : UInt8} {K : V → Prop} (h : s[n]? = some b) (hK : K (.i .u8 b.toNat)) : sidxK (.str s) (.i k (n : Int)) K := by
  refine ⟨by omega, ?_⟩
  rw [Int.toNat_natCast, h]
  exact hK
def tabL : ByteArray := ⟨#[0, 1, 2, 2, 3, 3, 3, 3, 4, 4, 4, 4, 4, 4, 4, 4, 5, 5, 5, 5, 5, 5, 5, 5, 5, 5, 5, 5, 5, 5, 5, 5, 6, 6, 6, 6, 6, 6, 6, 6, 6, 6, 6, 6, 6, 6, 6, 6, 6, 6, 6, 6, 6, 6, 6, 6, 6, 6, 6, 6, 6, 6, 6, 6, 7, 7, 7, 7, 7, 7, 7, 7, 7, 7, 7, 7, 7, 7, 7, 7, 7, 7, 7, 7, 7, 7, 7, 7, 7, 7, 7, 7, 7, 7, 7, 7, 7, 7, 7, 7, 7, 7, 7, 7, 7, 7, 7, 7, 7, 7, 7, 7, 7, 7, 7, 7, 7, 7, 7, 7, 7, 7, 7, 7, 7, 7, 7, 7, 8, 8, 8, 8, 8, 8, 8, 8, 8, 8, 8, 8, 8, 8, 8, 8, 8, 8, 8, 8, 8, 8, 8, 8, 8, 8, 8, 8, 8, 8, 8, 8, 8, 8, 8, 8, 8, 8, 8, 8, 8, 8, 8, 8, 8, 8, 8, 8, 8, 8, 8, 8, 8, 8, 8, 8, 8, 8, 8, 8, 8, 8, 8, 8, 8, 8, 8, 8, 8, 8, 8, 8, 8, 8, 8, 8, 8, 8, 8, 8, 8, 8, 8, 8, 8, 8, 8, 8, 8, 8, 8, 8, 8, 8, 8, 8, 8, 8, 8, 8, 8, 8, 8, 8, 8, 8, 8, 8, 8, 8, 8, 8, 8, 8, 8, 8, 8, 8, 8, 8, 8, 8, 8, 8, 8, 8, 8, 8]⟩
theorem tabL_all : ((List.range 256).all fun n => match tabL[n]? with | some b => decide (b.toNat ≤ 8 ∧ n < 2 ^ b.toNat ∧ (n = 0 ∨ 2 ^ b.toNat ≤ 2 * n)) | none => false) = true := by decide +kernel
theorem tabL_at {n : Nat} (h : n < 256) : ∃ b, tabL[n]? = some b ∧ b.toNat ≤ 8 ∧ n < 2 ^ b.toNat ∧ (n = 0 ∨ 2 ^ b.toNat ≤ 2 * n) := by
  have := List.all_eq_true.1 tabL_all n (List.mem_range.2 h)
  split at this
  · rename_i b hb
    exact ⟨b, hb, of_decide_eq_true this⟩
  · cases this
theorem len131 {x : Nat} {σ : List O} (hx : x < 65536) : ∃ L : Nat, FSpec Tryz.prog 131 [.i .u64 x] σ (.i .i64 L) σ ∧ L ≤ 16 ∧ x < 2 ^ L ∧ (x = 0 ∨ 2 ^ L ≤ 2 * x) := by
  have hu8 : ∀ y : Nat, y < 256 → IntKind.u8.wrap (y : Int) = y := fun y hy => by
    simp [IntKind.wrap, IntKind.bits, IntKind.signed]
    omega
  by_cases h8 : x < 256
  · obtain ⟨b, e, h1, h2, h3⟩ := tabL_at h8
    refine ⟨b.toNat, FSpec.frame (σ := σ) ?_ rfl rfl, by omega, h2, h3⟩
    refine fn131.spec0 mixed noIt_ok ?_
    rw [ic131]
    refine ab_seq_k fun K1 h1 => ?_
    simp
    refine h1 _ _ _ ?_
    clear h1 K1
    refine ab_seq_k fun K2 h2 => ?_
    refine ab_seq_k fun K3 h3 => ?_
    simp
    refine h3 _ _ _ ?_
    clear h3 K3
    refine ab_cond_of rfl (fun h => by simp at h; omega) (fun _ => ?_)
    simp
    refine h2 _ _ _ ?_
    clear h2 K2
    refine ab_seq_k fun K2 h2 => ?_
    refine ab_seq_k fun K3 h3 => ?_
    simp
    refine h3 _ _ _ ?_
    clear h3 K3
    refine ab_cond_of rfl (fun h => by simp at h; omega) (fun _ => ?_)
    simp
    refine h2 _ _ _ ?_
    clear h2 K2
    refine ab_seq_k fun K2 h2 => ?_
    refine ab_seq_k fun K3 h3 => ?_
    simp
    refine h3 _ _ _ ?_
    clear h3 K3
    refine ab_cond_of rfl (fun h => by simp at h; omega) (fun _ => ?_)
    simp
    refine h2 _ _ _ ?_
    clear h2 K2
    refine ab_seq_k fun K2 h2 => ?_
    simp [hu8 x h8]
    refine sidx_tab e ?_
    simp [wrap64 (x := (b.toNat : Int)) (by omega) (by omega)]
    refine h2 _ _ _ ?_
    simp
    exact fin_of 1 (by simp [rs131])
  · have hs8 : x >>> 8 < 256 := by rw [Nat.shiftRight_eq_div_pow]; omega
    have hd : x >>> 8 = x / 256 := Nat.shiftRight_eq_div_pow x 8
    obtain ⟨b, e, g1, g2, g3⟩ := tabL_at hs8
    have hsh : (x : Int).fdiv 256 = ((x >>> 8 : Nat) : Int) := by rw [hd]; exact Int.fdiv_eq_ediv_of_nonneg _ (by omega)
    have hpw : 2 ^ (8 + b.toNat) = 256 * 2 ^ b.toNat := by rw [Nat.pow_add]
    have b1 : x < 2 ^ (8 + b.toNat) := by
      rw [hpw]
      rw [hd] at g2
      generalize 2 ^ b.toNat = pw at *
      omega
    have b2 : 2 ^ (8 + b.toNat) ≤ 2 * x := by
      rw [hpw]
      rw [hd] at g3
      omega
    refine ⟨8 + b.toNat, FSpec.frame (σ := σ) ?_ rfl rfl, by omega, b1, .inr b2⟩
    refine fn131.spec0 mixed noIt_ok ?_
    rw [ic131]
    refine ab_seq_k fun K1 h1 => ?_
    simp
    refine h1 _ _ _ ?_
    clear h1 K1
    refine ab_seq_k fun K2 h2 => ?_
    refine ab_seq_k fun K3 h3 => ?_
    simp
    refine h3 _ _ _ ?_
    clear h3 K3
    refine ab_cond_of rfl (fun h => by simp at h; omega) (fun _ => ?_)
    simp
    refine h2 _ _ _ ?_
    clear h2 K2
    refine ab_seq_k fun K2 h2 => ?_
    refine ab_seq_k fun K3 h3 => ?_
    simp
    refine h3 _ _ _ ?_
    clear h3 K3
    refine ab_cond_of rfl (fun h => by simp at h; omega) (fun _ => ?_)
    simp
    refine h2 _ _ _ ?_
    clear h2 K2
    refine ab_seq_k fun K2 h2 => ?_
    refine ab_seq_k fun K3 h3 => ?_
    simp
    refine h3 _ _ _ ?_
    clear h3 K3
    refine ab_cond_of rfl (fun _ => ?_) (fun h => by simp at h; omega)
    refine ab_seq_k fun K4 h4 => ?_
    have hb64 : IntKind.u64.bits = 64 := rfl
    simp [hb64]
    rw [hsh]
    generalize x >>> 8 = y at *
    refine h4 _ _ _ ?_
    clear h4 K4
    have w8 : IntKind.i64.wrap 8 = 8 := wrap64 (by omega) (by omega)
    simp [w8]
    refine h2 _ _ _ ?_
    clear h2 K2
    refine ab_seq_k fun K2 h2 => ?_
    simp [hu8 _ hs8]
    refine sidx_tab e ?_
    simp [wrap64 (x := (b.toNat : Int)) (by omega) (by omega), wrap64 (x := 8 + (b.toNat : Int)) (by omega) (by omega)]
    refine h2 _ _ _ ?_
    simp
    exact fin_of 1 (by simp [rs131])
theorem len119 {x : Nat} {σ : List O} (hx : x < 65536) : ∃ L : Nat, FSpec Tryz.prog 119 [.i .u64 x] σ (.i .i64 L) σ ∧ L ≤ 16 ∧ x < 2 ^ L ∧ (x = 0 ∨ 2 ^ L ≤ 2 * x) := by
  obtain ⟨L, h, h1⟩ := len131 (σ := []) hx
  refine ⟨L, FSpec.frame (σ := σ) ?_ rfl rfl, h1⟩
  refine fn119.spec0 mixed noIt_ok ?_
  rw [ic119]
  refine ab_seq_k fun K1 h1 => ?_
  simp
  refine h1 _ _ _ ?_
  clear h1 K1
  refine ab_seq_k fun K2 h2 => ?_
  refine ab_cond_of rfl (fun h => by cases h) (fun _ => ?_)
  simp
  refine h2 _ _ _ ?_
  refine ab_seq_k fun K3 h3 => ?_
  simp
  refine callK_of (h) ?_
  simp
  refine h3 _ _ _ ?_
  clear h3 K3
  simp
  exact fin_of 1 (by simp [rs119])
theorem wrapu64 {x : Int} (h1 : 0 ≤ x) (h2 : x < 18446744073709551616) : IntKind.u64.wrap x = x := by
  simp [IntKind.wrap, IntKind.bits, IntKind.signed]
  omega
theorem np141 {l : Nat} {σ : List O} (h1 : 1 ≤ l) (h2 : l < 65536) : ∃ M : Nat, FSpec Tryz.prog 141 [.i .i64 l] σ (.i .u64 M) σ ∧ l < M ∧ M ≤ 2 * l := by
  obtain ⟨L, h, hL, h3, h4⟩ := len119 (σ := []) h2
  have h4 := h4.resolve_left (by omega)
  refine ⟨2 ^ L, FSpec.frame (σ := σ) ?_ rfl rfl, h3, h4⟩
  refine FSpecQ.point ?_
  refine gf141.specQ mixed noIt_ok ?_
  rw [gnp]
  refine ab_seq_k fun K1 h1 => ?_
  simp
  refine h1 _ _ _ ?_
  clear h1 K1
  refine ab_seq_k fun K2 h2 => ?_
  have hw : IntKind.u64.wrap (2 ^ (min L 64)) = ((2 ^ L : Nat) : Int) := by
    rw [Nat.min_eq_left (by omega)]
    have e : ((2 : Int) ^ L) = ((2 ^ L : Nat) : Int) := by simp
    rw [e]
    exact wrapu64 (by omega) (by omega)
  have hb : IntKind.u64.bits = 64 := rfl
  generalize 2 ^ L = M at *
  simp [wrapu64 (x := (l : Int)) (by omega) (by omega)]
  refine callR_of h.toQ ?_
  rintro v σ' ⟨rfl, rfl⟩
  simp [hb]
  rw [hw]
  refine h2 _ _ _ ?_
  simp
  refine fin_Q ?_
  simp [rs141]

theorem next142 {rid : Nat} {r : Int} {σ : List O} (hs : σ[rid]? = some (.row 0 [.i .u64 r])) : FSpecQ Tryz.prog 142 [.p rid 0 0] σ (fun v σ' => ∃ r r2 : Int, v = .i .u64 r ∧ σ' = σ.set rid (.row 0 [.i .u64 r2])) := by
  refine fn142.specQ mixed noIt_ok ?_
  rw [ic142]
  refine ab_seq_k fun K1 h1 => ?_
  simp
  refine h1 _ _ _ ?_
  clear h1 K1
  obtain ⟨hs1, hs'⟩ := List.getElem?_eq_some_iff.1 hs
  have hset : ∀ c, (σ.set rid c)[rid]? = some c := fun c => List.getElem?_set_self hs1
  refine ab_seq_k fun K2 h2 => ?_
  simp [abDs_consU, drU, recheck_cons, recheck_nil, rcK, IS.dst, hs, hs', hset]
  refine h2 _ _ _ ?_
  clear h2 K2
  generalize bitop BinOp.xor _ _ _ = r1
  refine ab_seq_k fun K2 h2 => ?_
  simp [abDs_consU, drU, recheck_cons, recheck_nil, rcK, IS.dst, hset, hs1]
  refine h2 _ _ _ ?_
  clear h2 K2
  generalize bitop BinOp.xor _ _ _ = r2
  refine ab_seq_k fun K2 h2 => ?_
  simp [abDs_consU, drU, recheck_cons, recheck_nil, rcK, IS.dst, hset, hs1]
  refine h2 _ _ _ ?_
  clear h2 K2
  generalize bitop BinOp.xor _ _ _ = r3
  refine ab_seq_k fun K2 h2 => ?_
  simp [hset, hs1]
  refine h2 _ _ _ ?_
  simp
  refine fin_Q ?_
  simp [rs142]
  exact ⟨r3, rfl⟩
theorem and_u64 {r : Int} {m : Nat} (hm : m < 1000000) : ∃ o : Nat, bitop .and .u64 r (m : Int) = (o : Int) ∧ o ≤ m := by
  have e : (BitVec.ofInt IntKind.u64.bits (m : Int)).toNat = m := by
    simp [IntKind.bits]
    omega
  refine ⟨(BitVec.ofInt IntKind.u64.bits r &&& BitVec.ofInt IntKind.u64.bits (m : Int)).toNat, ?_, ?_⟩
  · unfold bitop
    simp only
    have h1 : (BitVec.ofInt IntKind.u64.bits r &&& BitVec.ofInt IntKind.u64.bits (m : Int)).toNat ≤ m := by
      rw [BitVec.toNat_and, e]
      exact Nat.and_le_right
    exact wrapu64 (by omega) (by omega)
  · rw [BitVec.toNat_and, e]
    exact Nat.and_le_right
theorem Fn_.specQL {P : Program} {It : ItTy} (hm : P.follows .mixedOrders = true) (hIt : ItOK P It) {f : FuncId} {fn : Func} {ex : List Nat} {ic : IC} {rs : List IRes} (h : Fn_ P f fn ex ic rs)
    {args : List V} {σ : List O} {Q : V → List O → Prop} (hab : LtAll σ → ab P noY It σ.length ic (finQ rs σ Q) [] (finQ rs σ Q) (some 0) (entry 0 args) σ) : FSpecQ P f args σ Q := by
  refine ⟨⟨fn, h.hf, h.hn, ?_⟩, fun C cargs hR ha => (h.specQ hm hIt (hab hR.ltAll)).2 C cargs hR ha⟩
  have hc := h.hc
  cases hb : fn.body with
  | none => rw [hb] at hc; cases hc
  | some c => rfl
theorem DA.ltAll {σ0 σ : List O} {id ver n a b : Nat} {F G : Nat → V} (h : DA σ0 id ver n G σ) (hl : LtAll σ0) (hF : σ0[id]? = some (.row ver (rowV n F))) (hsw : Sw a b F G) (hb : b ≤ n) : LtAll σ := by
  rw [h.is_]
  intro o ho
  rw [List.length_set]
  rcases List.mem_or_eq_of_mem_set ho with h1 | h1
  · exact hl o h1
  · subst h1
    intro x hx
    have hx2 := (hsw.perm hb).mem_iff.1 hx
    exact hl _ (List.mem_of_getElem? hF) x hx2
theorem finQ_drop {rs : List IRes} {σ0 A g : List O} {Q : V → List O → Prop} {md : Md} {env : Env} (hA : LtAll A) (hl : A.length = σ0.length) (h : resK rs env (A ++ g) fun vs => Q (retV vs) A ∧ (retV vs).pure = true) : finQ rs σ0 Q md env (A ++ g) := by
  intro _
  obtain ⟨k0, hk0⟩ := hA.cut
  exact resK_mono h fun vs h => ⟨_, _, h.1, .inl ⟨k0 + 1, A.length, by omega, by simp, frz_pure h.2, .inl (hk0 (k0 + 1) (by omega) g)⟩⟩

section
variable {cv : V} {D : V → Prop} {lt : V → V → Bool}
theorem brk_ok {f : FuncId} {fn : Func} {ex : List Nat} (hf : Fn_ Tryz.prog f fn ex gbrk grbrk) (hcmp : CmpOK cv D lt) {σ : List O} {id ver n a b : Nat} {F : Nat → V} (hD : ∀ k, k < n → D (F k)) (hab : a + 8 ≤ b) (hbn : b ≤ n) (hn : n ≤ 60000) (hσ : σ[id]? = some (.row ver (rowV n F))) :
    FSpecQ Tryz.prog f [slV id ver n, .i .i64 a, .i .i64 b, cv] σ (SwQ σ id ver n a b F (fun _ => True) (.tup [])) := by
  have hidl := (List.getElem?_eq_some_iff.1 hσ).1
  refine hf.specQL mixed noIt_ok (fun hlt => ?_)
  rw [gbrk]
  obtain ⟨l, hl⟩ : ∃ l, l = b - a := ⟨_, rfl⟩
  obtain ⟨q, hq⟩ : ∃ q, q = l / 4 := ⟨_, rfl⟩
  have e1 : IntKind.i64.wrap ((b : Int) - a) = l := by rw [wrap64 (by omega) (by omega)]; omega
  have e2 : IntKind.i64.wrap ((l : Int).tdiv 4) = q := by
    have : (l : Int).tdiv 4 = ((l / 4 : Nat) : Int) := rfl
    rw [this, wrap64 (by omega) (by omega), hq]
  have e2' : IntKind.i64.wrap ((l : Int) / 4) = q := by rw [wrap64 (by omega) (by omega)]; omega
  have e4 : IntKind.i64.wrap ((q : Int) * 2) = (q : Int) * 2 := wrap64 (by omega) (by omega)
  obtain ⟨x0, hx0⟩ : ∃ x, x = a + q * 2 - 1 := ⟨_, rfl⟩
  have e5 : IntKind.i64.wrap ((a : Int) + (q : Int) * 2) = (x0 : Int) + 1 := by rw [wrap64 (by omega) (by omega)]; omega
  have e6 : IntKind.i64.wrap ((x0 : Int) + 1 - 1) = x0 := by rw [wrap64 (by omega) (by omega)]; omega
  have e6' : IntKind.i64.wrap (x0 : Int) = x0 := wrap64 (by omega) (by omega)
  have e7 : IntKind.i64.wrap ((x0 : Int) + 1 + 1) = (x0 : Int) + 1 + 1 := wrap64 (by omega) (by omega)
  refine ab_seq_k fun K1 h1 => ?_
  simp [e1]
  refine h1 _ _ _ ?_
  clear h1 K1
  refine ab_seq_k fun K2 h2 => ?_
  simp
  refine h2 _ _ _ ?_
  clear h2 K2
  refine ab_cond_of rfl (fun _ => ?_) (fun h => by simp at h; omega)
  refine ab_seq_k fun K3 h3 => ?_
  simp [wrapu64 (x := (l : Int)) (by omega) (by omega)]
  refine h3 _ _ _ ?_
  clear h3 K3
  obtain ⟨M, hM, hM1, hM2⟩ := np141 (l := l) (σ := σ ++ [O.row 0 [V.i .u64 l]]) (by omega) (by omega)
  refine ab_seq_k fun K4 h4 => ?_
  simp
  refine callR_of hM.toQ ?_
  rintro v σ' ⟨rfl, rfl⟩
  simp
  refine h4 _ _ _ ?_
  clear h4 K4 hM
  refine ab_seq_k fun K5 h5 => ?_
  simp [e2, e2', e4, e5, e6, e6']
  refine h5 _ _ _ ?_
  clear h5 K5
  refine ab_block_k fun K6 h6 => ?_
  refine ab_loop_k (fun m env σ' => ∃ (t : Nat) (G : Nat → V) (A : List O) (r : Int), t + m = 3 ∧ env = [(0, slV id ver n), (1, .i .i64 a), (8, .i .i64 l), (9, .p σ.length 0 0), (10, .i .u64 M), (11, .i .i64 ((x0 + t : Nat) : Int))] ∧ Sw a b F G ∧ DA σ id ver n G A ∧ σ' = A ++ [.row 0 [.i .u64 r]]) 3 ⟨0, F, σ, l, rfl, by simp, .refl F, DA.mk0 hσ, rfl⟩ ?_
  rintro m env σ' ⟨t, G, A, r, ht, rfl, hsw, hda, rfl⟩ K7 h7
  have hAl : A.length = σ.length := by rw [hda.is_]; simp
  have hGD := fun k hk => hsw.alln hbn hD (k := k) hk
  rw [gbrk_0]
  obtain ⟨xt, hxt⟩ : ∃ x, x = x0 + t := ⟨_, rfl⟩
  rw [← hxt]
  refine ab_seq_k fun K8 h8 => ?_
  refine ab_seq_k fun K9 h9 => ?_
  simp [e2, e2', e4, e5, e7]
  refine h9 _ _ _ ?_
  clear h9 K9
  by_cases ht3 : t < 3
  · have z0 : (xt : Int) ≤ (x0 : Int) + 1 + 1 := by omega
    refine ab_cond_of rfl (fun _ => ?_) (fun h => by simp [z0] at h)
    simp
    refine h8 _ _ _ ?_
    clear h8 K8
    refine ab_seq_k fun K10 h10 => ?_
    refine ab_block_k fun K11 h11 => ?_
    have hcell : (A ++ [O.row 0 [V.i .u64 r]])[σ.length]? = some (O.row 0 [V.i .u64 r]) := by rw [← hAl]; simp
    have hset : ∀ r2 : Int, (A ++ [O.row 0 [V.i .u64 r]]).set σ.length (O.row 0 [V.i .u64 r2]) = A ++ [O.row 0 [V.i .u64 r2]] := fun r2 => by rw [← hAl]; simp
    refine ab_seq_k fun K12 h12 => ?_
    simp
    refine callR_of (next142 hcell) ?_
    rintro v σ' ⟨r1, r2, rfl, rfl⟩
    rw [hset]
    obtain ⟨o, ho, hom⟩ := and_u64 (r := r1) (m := M - 1) (by omega)
    have hM3 : IntKind.u64.wrap ((M : Int) - 1) = ((M - 1 : Nat) : Int) := by rw [wrapu64 (by omega) (by omega)]; omega
    simp [hM3]
    rw [ho]
    simp [wrap64 (x := (o : Int)) (by omega) (by omega)]
    refine h12 _ _ _ ?_
    clear h12 K12 hcell hset
    have hat := getL (g := [O.row 0 [V.i .u64 r2]]) hda.at_
    have hal : id < A.length := by omega
    have hst : ∀ c, (A ++ [O.row 0 [V.i .u64 r2]]).set id c = A.set id c ++ [O.row 0 [V.i .u64 r2]] := fun c => by rw [List.set_append_left _ _ hal]
    obtain ⟨hat1, hat'⟩ := List.getElem?_eq_some_iff.1 hat
    have hs1 : ∀ c, ((A ++ [O.row 0 [V.i .u64 r2]]).set id c)[id]? = some c := fun c => List.getElem?_set_self hat1
    refine ab_seq_k fun K13 h13 => ?_
    have hK13 : ∀ env (o : Nat), get env 0 = slV id ver n → get env 1 = .i .i64 a → get env 8 = .i .i64 l → get env 9 = .p σ.length 0 0 → get env 10 = .i .u64 M → get env 11 = .i .i64 xt → get env 12 = .i .i64 o → o < l → K13 (some 0) env (A ++ [O.row 0 [V.i .u64 r2]]) := by
      intro env o w0 w1 w8 w9 w10 w11 w12 hol
      refine h13 _ _ _ ?_
      clear h13
      obtain ⟨y, hy⟩ : ∃ y, y = a + o := ⟨_, rfl⟩
      have ey : IntKind.i64.wrap ((a : Int) + o) = y := by rw [wrap64 (by omega) (by omega)]; omega
      have hyn : y < n := by omega
      have hxn : xt < n := by omega
      have c1 := hcmp.one _ (hGD _ hxn)
      have c2 := hcmp.one _ (hGD _ hyn)
      generalize hT : A ++ [O.row 0 [V.i .u64 r2]] = T at *
      simp [abDs_consU, drU, recheck_cons, recheck_nil, rcK, IS.dst, w0, w1, w8, w9, w10, w11, w12, ey, hat, hat', hxn, hyn, rowV_get, hs1, c1, c2]
      rw [rowV_swp, hst]
      refine h11 _ _ _ (h10 _ _ _ ?_)
      simp [wrap64 (x := (xt : Int) + 1) (by omega) (by omega)]
      refine h7 _ _ _ (again (m - 1) (by omega) ⟨t + 1, swp G xt y, A.set id (.row ver (rowV n (swp G xt y))), r2, by omega, ?_, .step _ _ hsw (by omega) (by omega) (by omega) (by omega), hda.put, rfl⟩)
      have : ((x0 + (t + 1) : Nat) : Int) = (xt : Int) + 1 := by omega
      rw [this]
      simp [w0, w1, w8, w9, w10]
    clear h13
    refine ab_seq_k fun K14 h14 => ?_
    simp
    refine h14 _ _ _ ?_
    by_cases hol : l ≤ o
    · refine ab_cond_of rfl (fun _ => ?_) (fun h => by simp at h; omega)
      have eo : IntKind.i64.wrap ((o : Int) - l) = ((o - l : Nat) : Int) := by rw [wrap64 (by omega) (by omega)]; omega
      simp [eo]
      exact hK13 _ (o - l) rfl rfl rfl rfl rfl rfl rfl (by omega)
    · refine ab_cond_of rfl (fun h => by simp at h; omega) (fun _ => ?_)
      simp
      exact hK13 _ o rfl rfl rfl rfl rfl rfl rfl (by omega)
  · have z0 : ¬ (xt : Int) ≤ (x0 : Int) + 1 + 1 := by omega
    refine ab_cond_of rfl (fun h => by simp [z0] at h) (fun _ => ?_)
    simp
    refine h6 _ _ _ ?_
    refine finQ_drop (hda.ltAll hlt hσ hsw hbn) hAl ?_
    simp [grbrk]
    exact ⟨rfl, G, hsw, trivial, hda⟩
end
end Go.Ab
end
