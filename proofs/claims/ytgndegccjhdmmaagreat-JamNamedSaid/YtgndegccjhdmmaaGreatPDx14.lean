import Derived.Test.YtgndegccjhdmmaaGreatPDx13
/- Part 14 of what the theorem in TC rests on: an abstract layer over the calculus, contracts of the functions of the program, and plain facts. -/
set_option linter.unusedVariables false
set_option linter.unusedSimpArgs false
set_option linter.constructorNameAsVariable false
set_option maxHeartbeats 4000000
set_option maxRecDepth 100000
section
namespace Go.Ab
open Go Go.Proofs
def ltI (a b : Int) : Bool := decide (a < b)
theorem ints_app {a b : List Int} : ints (a ++ b) = ints a ++ ints b := by simp [ints]
theorem frz_Gn {v : V} {k n m : Nat} {σ : List O} {cs : List V} (h : Gr k 1 σ v n cs) (hm : m ≤ k) (hp : pureL cs = true) : frz 2 m σ v = .ss cs n (n == 0) := by
 rcases h.cases with ⟨rfl, rfl, rfl⟩ | ⟨id, ver, h0, hid, rfl, hs, hl⟩
 ·rfl
 ·rw [frz_row (k := 0) hs (Nat.le_trans hm hid) h.1 hp]
  have : (n == 0) = false := by simpa using h0
  rw [this]
theorem SlP.app {σ g : List O} {v : V} {cs : List V} (h : SlP σ v cs) : SlP (σ ++ g) v cs := by
 rcases h with h | ⟨id, ver, rest, h1, h2⟩
 ·exact .inl h
 ·exact .inr ⟨id, ver, rest, h1, app_get h2⟩
def Pre (σ τ : List O) : Prop := ∀ j, j < σ.length → τ[j]? = σ[j]?
theorem Pre.ex {σ τ : List O} (h : Pre σ τ) : ∃ g, τ = σ ++ g := by
 refine ⟨τ.drop σ.length, List.ext_getElem? fun i => ?_⟩
 by_cases hi : i < σ.length
 ·rw [h i hi, List.getElem?_append_left hi]
 ·rw [List.getElem?_append_right (by omega), List.getElem?_drop]
  congr 1
  omega
theorem Pre.refl {σ : List O} : Pre σ σ := fun _ _ => rfl
theorem Pre.len {σ τ : List O} (h : Pre σ τ) : σ.length ≤ τ.length := by
 obtain ⟨g, rfl⟩ := h.ex
 simp
theorem Pre.slp {σ τ : List O} {v : V} {cs : List V} (h : Pre σ τ) (hv : SlP σ v cs) : SlP τ v cs := by
 obtain ⟨g, rfl⟩ := h.ex
 exact hv.app
theorem fin_cut {rs : List IRes} {σ0 σ : List O} {v : V} {md : Md} {env : Env} (k : Nat) (hp : Pre σ0 σ) (h : resK rs env σ fun vs => frz k σ0.length σ (retV vs) = v) : finK rs σ0 v σ0 md env σ := by
 obtain ⟨g, rfl⟩ := hp.ex
 exact resK_mono h (fun vs h => .inl ⟨k, σ0.length, Nat.le_refl _, by simp, h, .inr ⟨rfl, ⟨g, rfl⟩, rfl⟩⟩)
theorem sorted93 {l : List Int} {v0 : V} {σ : List O} (hv0 : SlP σ v0 (ints l)) (hl : l.length ≤ 60000) : FSpec Tryz.prog 93 [v0] σ (sl (sortG ltI l) (l.length == 0)) σ := by
 refine fn93.spec mixed noIt_ok ?_
 rw [ic93]
 generalize hσ0 : σ = σ0 at *
 refine ab_seq_k fun K1 h1 => ?_
 simp
 refine h1 _ _ _ ?_
 clear h1 K1
 refine ab_seq_k fun K2 h2 => ?_
 simp
 refine h2 _ _ _ ?_
 clear h2 K2
 refine ab_seq_k fun K3 h3 => ?_
 refine ab_seq_k fun K4 h4 => ?_
 simp
 refine h4 _ _ _ ?_
 clear h4 K4
 refine ab_block_k fun K5 h5 => ?_
 refine ab_loop_k (fun m env σ => ∃ (i : Nat) (v : V), i + m = l.length ∧ env = [(0, v0), (3, v), (4, .i .i64 i)] ∧ Pre σ0 σ ∧ Gr σ0.length 1 σ v i (ints (sortG ltI (l.take i)))) l.length ⟨0, .ss [] 0 true, by omega, by simp, .refl, by simpa [sortG, ints] using Gr.nil⟩ ?_
 rintro m env σ ⟨i, v, hi, rfl, hpr, hv⟩ K6 h6
 have hsl := hpr.slp hv0
 rw [ic93_1]
 refine ab_seq_k fun K7 h7 => ?_
 refine ab_seq_k fun K8 h8 => ?_
 simp
 refine hsl.len ?_
 simp
 refine h8 _ _ _ ?_
 clear h8 K8
 refine ab_cond_of rfl (fun hc1 => ?_) (fun hc1 => ?_)
 ·have hil : i < l.length := by simp at hc1; omega
  obtain ⟨b1, b2, bm⟩ := getD_get hil
  have hsn : sortG ltI (l.take (i + 1)) = insG ltI (sortG ltI (l.take i)) (l.getD i 0) := by rw [List.take_add_one, b1]; exact sortG_snoc
  have hSl : (sortG ltI (l.take i)).length = i := by rw [sortG_len, List.length_take]; omega
  generalize l.getD i 0 = x at *
  generalize sortG ltI (l.take i) = S at *
  simp
  refine h7 _ _ _ ?_
  clear h7 K7
  refine ab_seq_k fun K9 h9 => ?_
  refine ab_block_k fun K10 h10 => ?_
  refine ab_seq_k fun K11 h11 => ?_
  simp
  refine hsl.ixs (i := i) (x := .i .i64 x) (by unfold ints; rw [List.getElem?_map, b1]; rfl) fun a ha => ?_
  simp
  refine ha _ ?_
  simp
  refine appG hv hpr.len (by omega) (by omega) rfl ?_
  intro v' σ' hv' hgr
  simp
  refine h11 _ _ _ ?_
  have hpr' : Pre σ0 σ' := fun j hj => by rw [hgr.lt hv hj hpr.len]; exact hpr j hj
  clear h11 K11 hgr hv ha a hsl hpr
  have hv2 : Gr σ0.length 1 σ' v' (i + 1) (ints (atG S x i)) := by
   have e : atG S x i = S ++ [x] := by rw [← hSl]; exact atG_end
   rw [e, ints_app]; exact hv'
  clear hv'
  rcases hv2.cases with ⟨h0, -, -⟩ | ⟨id, ver, -, hid, rfl, hs, hlt⟩
  ·omega
  clear hv2 v
  refine ab_seq_k fun K13 h13 => ?_
  obtain ⟨hsl0, hs0'⟩ := List.getElem?_eq_some_iff.1 hs
  simp [hs, hs0', wrap64 (x := (i : Int)) (by omega) (by omega)]
  refine h13 _ _ _ ?_
  clear h13 K13
  refine ab_block_k fun K14 h14 => ?_
  refine ab_loop_k (fun m env σ => ∃ j : Nat, j = m ∧ j ≤ i ∧ (∀ y ∈ S.drop j, ltI x y = true) ∧ env = [(0, v0), (3, .s id ver 0 (i + 1) 1), (4, .i .i64 i), (5, .i .i64 j)] ∧ Pre σ0 σ ∧ σ[id]? = some (.row ver (ints (atG S x j)))) i ⟨i, rfl, Nat.le_refl _, by rw [List.drop_of_length_le (by omega)]; simp, by simp, hpr', hs⟩ ?_
  clear hs0' hsl0 hs hlt hpr' σ σ'
  rintro m2 env σ ⟨j, rfl, hj, hpre, rfl, hpr, hs⟩ K15 h15
  obtain ⟨hsl, hs'⟩ := List.getElem?_eq_some_iff.1 hs
  rw [ic93_0]
  refine ab_seq_k fun K16 h16 => ?_
  refine ab_seq_k fun K17 h17 => ?_
  have hfin : ∀ env, get env 0 = v0 → get env 3 = .s id ver 0 (i + 1) 1 → get env 4 = .i .i64 i → (∀ y, 0 < j → S[j - 1]? = some y → ¬ ltI x y = true) → K14 (some 0) env σ := by
   intro env w0 w3 w4 hst
   have e : insG ltI S x = atG S x j := insG_at hpre hst (by omega)
   refine h14 _ _ _ (h10 _ _ _ (h9 _ _ _ ?_))
   simp [w0, w3, w4, wrap64 (x := (i : Int) + 1) (by omega) (by omega)]
   refine h6 _ _ _ (again (m - 1) (by omega) ⟨i + 1, _, by omega, by simp; rfl, hpr, ?_⟩)
   rw [hsn, e]
   exact ⟨by simp [atG_len (show j ≤ S.length by omega)]; omega, .inr ⟨by omega, id, ver, hid, rfl, hs⟩⟩
  have hlen : (ints (atG S x j)).length = i + 1 := by simp [atG_len (show j ≤ S.length by omega)]; omega
  by_cases hj0 : j = 0
  ·subst hj0
   simp [abDs_consU, drU, recheck_cons, recheck_nil, rcK, IS.dst]
   refine h17 _ _ _ ?_
   refine ab_cond_of rfl (fun h => by cases h) (fun _ => ?_)
   simp
   exact hfin _ rfl rfl rfl (fun y h => by omega)
  obtain ⟨j, rfl⟩ : ∃ j', j = j' + 1 := ⟨j - 1, by omega⟩
  have hjl : j < S.length := by omega
  have hy : S[j]? = some S[j] := List.getElem?_eq_getElem hjl
  generalize S[j] = y at hy
  have g1 : (ints (atG S x (j + 1)))[j + 1]? = some (.i .i64 x) := by unfold ints; rw [List.getElem?_map, atG_get (by omega)]; rfl
  have g2 : (ints (atG S x (j + 1)))[j]? = some (.i .i64 y) := by unfold ints; rw [List.getElem?_map, atG_prev hjl, hy]; rfl
  have hsw : ((ints (atG S x (j + 1))).set (j + 1) (.i .i64 y)).set j (.i .i64 x) = ints (atG S x j) := by rw [ints_set, ints_set, atG_swap hy]
  generalize hA : ints (atG S x (j + 1)) = A at *
  obtain ⟨g1l, g1'⟩ := List.getElem?_eq_some_iff.1 g1
  obtain ⟨g2l, g2'⟩ := List.getElem?_eq_some_iff.1 g2
  have z1 : (0 : Int) < (j : Int) + 1 := by omega
  have z2 : (0 : Int) ≤ (j : Int) + 1 := by omega
  have z3 : (j : Int) < (i : Int) + 1 := by omega
  have z4 : (j : Int) + 1 < (i : Int) + 1 := by omega
  have zj := wrap64 (x := (j : Int)) (by omega) (by omega)
  have hly : ¬ ltI x y = true → ∀ y', 0 < j + 1 → S[j + 1 - 1]? = some y' → ¬ ltI x y' = true := fun h y' _ hy' => by
   rw [Nat.add_sub_cancel, hy] at hy'; cases hy'; exact h
  simp [abDs_consU, drU, recheck_cons, recheck_nil, rcK, IS.dst, z1, z2, z3, z4, zj, hs, hs', g1, g1', g2, g2', hjl]
  refine h17 _ _ _ ?_
  clear h17
  by_cases hxy : x < y
  ·refine ab_cond_of rfl (fun _ => ?_) (fun h => by simp [hxy] at h)
   simp
   refine h16 _ _ _ ?_
   refine ab_seq_k fun K18 h18 => ?_
   refine ab_block_k fun K19 h19 => ?_
   have hset : ∀ o, (σ.set id o)[id]? = some o := fun o => List.getElem?_set_self hsl
   have hsett : ∀ o o', (σ.set id o).set id o' = σ.set id o' := fun o o' => by simp
   simp [abDs_consU, drU, recheck_cons, recheck_nil, rcK, IS.dst, z1, z2, z3, z4, zj, hs, hs', g1, g1', g2, g2', hjl, hset]
   refine ⟨by omega, by omega, ?_⟩
   rw [hsw]
   refine h19 _ _ _ (h18 _ _ _ ?_)
   simp [zj]
   refine h15 _ _ _ (again j (by omega) ⟨j, rfl, by omega, fun z hz => ?_, by simp [zj], fun q hq => ?_, hset _⟩)
   ·rw [List.drop_eq_getElem_cons hjl, List.mem_cons] at hz
    rcases hz with rfl | hz
    ·have e : S[j] = y := by
      have := List.getElem?_eq_getElem hjl
      rw [hy] at this
      exact (Option.some.inj this).symm
     rw [e]; exact decide_eq_true hxy
    ·exact hpre z hz
   ·rw [List.getElem?_set_ne (by omega)]
    exact hpr q hq
  ·refine ab_cond_of rfl (fun h => by simp [hxy] at h) (fun _ => ?_)
   simp
   exact hfin _ rfl rfl rfl (hly (by simp [ltI, hxy]))
 ·have hil : i = l.length := by simp at hc1; omega
  subst hil
  rw [List.take_length] at hv
  simp
  refine h5 _ _ _ (h3 _ _ _ ?_)
  refine ab_seq_k fun K30 h30 => ?_
  simp
  refine h30 _ _ _ ?_
  clear h30 K30
  simp
  refine fin_cut 2 hpr ?_
  have hSl : (sortG ltI l).length = l.length := sortG_len
  simp [-frz, rs93]
  rw [frz_Gn hv (Nat.le_refl _) (by simp)]
  simp [hSl]
end Go.Ab
end
section
namespace Go.Ab
open Go Go.Proofs
theorem ints25F {a b : List Int} {fa fb : Bool} {σ : List O} (ha : (a.length : Int) < 1000000000) : FSpec Tryz.prog 25 [sl a fa, sl b fb] σ (.b (decide (a = b))) σ := FSpec.frame (σ := σ) (ints25 ha) (by simp) rfl
end Go.Ab
end
section
namespace Go.Ab
open Go Go.Proofs
def renL (nm l : List Int) : List Int := sortG ltI (l.map fun x => nm.getD x.toNat 0)
def renA (nm : List Int) (A : List (List Int × Bool)) : List (List Int × Bool) := A.map fun p => (renL nm p.1, p.1.length == 0)
@[simp] theorem renA_len {nm : List Int} {A : List (List Int × Bool)} : (renA nm A).length = A.length := by simp [renA]
theorem lls_append {A B : List (List Int × Bool)} : lls (A ++ B) = lls A ++ lls B := by simp [lls]
theorem ren55 {A : List (List Int × Bool)} {nm : List Int} {fA : Bool} {vn : V} {σ : List O} (hv : SlP σ vn (ints nm)) (hA : A.length ≤ 5000) (hal : ∀ p ∈ A, p.1.length ≤ 5000) (hx : ∀ p ∈ A, ∀ x ∈ p.1, 0 ≤ x ∧ x < nm.length) :
  FSpec Tryz.prog 55 [.ss (lls A) A.length fA, vn] σ (.ss (lls (renA nm A)) A.length (A.length == 0)) σ := by
 refine fn55.spec mixed noIt_ok ?_
 rw [ic55]
 generalize hσ0 : σ = σ0 at *
 refine ab_seq_k fun K1 h1 => ?_
 simp
 refine h1 _ _ _ ?_
 clear h1 K1
 refine ab_seq_k fun K2 h2 => ?_
 simp
 refine h2 _ _ _ ?_
 clear h2 K2
 refine ab_seq_k fun K3 h3 => ?_
 refine ab_seq_k fun K4 h4 => ?_
 simp
 refine h4 _ _ _ ?_
 clear h4 K4
 refine ab_block_k fun K5 h5 => ?_
 refine ab_loop_k (fun m env σ => ∃ (i : Nat) (v : V), i + m = A.length ∧ env = [(0, .ss (lls A) A.length fA), (1, vn), (5, v), (6, .i .i64 i)] ∧ Pre σ0 σ ∧ Gr σ0.length 1 σ v i (lls (renA nm (A.take i)))) A.length ⟨0, .ss [] 0 true, by omega, by simp, .refl, by simpa [lls, renA] using Gr.nil⟩ ?_
 rintro m env σ ⟨i, v, hi, rfl, hpr, hg⟩ K6 h6
 rw [ic55_1]
 refine ab_seq_k fun K7 h7 => ?_
 refine ab_seq_k fun K8 h8 => ?_
 simp
 refine h8 _ _ _ ?_
 clear h8 K8
 refine ab_cond_of rfl (fun hc1 => ?_) (fun hc1 => ?_)
 ·have hil : i < A.length := by simp at hc1; omega
  have hp : A[i]? = some A[i] := List.getElem?_eq_getElem hil
  have hpm : A[i] ∈ A := List.getElem_mem hil
  have hts : renA nm (A.take (i + 1)) = renA nm (A.take i) ++ [(renL nm A[i].1, A[i].1.length == 0)] := by unfold renA; rw [List.take_add_one, hp, List.map_append]; rfl
  generalize A[i] = p at *
  have hpl := hal p hpm
  have hpx := hx p hpm
  have hlp := lls_get hp
  obtain ⟨g1, g2⟩ := List.getElem?_eq_some_iff.1 hlp
  simp
  refine h7 _ _ _ ?_
  clear h7 K7
  refine ab_seq_k fun K9 h9 => ?_
  refine ab_block_k fun K10 h10 => ?_
  refine ab_seq_k fun K11 h11 => ?_
  simp
  refine h11 _ _ _ ?_
  clear h11 K11
  refine ab_seq_k fun K12 h12 => ?_
  refine ab_seq_k fun K13 h13 => ?_
  simp
  refine h13 _ _ _ ?_
  clear h13 K13
  refine ab_block_k fun K14 h14 => ?_
  have hpr0 := hpr
  have hg0 := hg
  have hτl := hpr0.len
  generalize hτ : σ = τ at hpr0 hg0 hτl
  refine ab_loop_k (fun m env σ => ∃ (k : Nat) (w : V), k + m = p.1.length ∧ env = [(0, .ss (lls A) A.length fA), (1, vn), (5, v), (6, .i .i64 i), (7, w), (8, .i .i64 k)] ∧ Pre τ σ ∧ Gr τ.length 1 σ w k (ints ((p.1.take k).map fun x => nm.getD x.toNat 0))) p.1.length ⟨0, .ss [] 0 true, by omega, by simp, .refl, by simpa [ints] using Gr.nil⟩ ?_
  clear hτ hpr hg σ
  rintro m2 env σ ⟨k, w, hk, rfl, hpt, hw⟩ K15 h15
  have hpr : Pre σ0 σ := fun j hj => by rw [hpt j (by omega)]; exact hpr0 j hj
  have hg : Gr σ0.length 1 σ v i (lls (renA nm (A.take i))) := hg0.keep fun j _ hj => hpt j (hg0.id_ge hj).2
  have hsl := hpr.slp hv
  rw [ic55_0]
  refine ab_seq_k fun K16 h16 => ?_
  refine ab_seq_k fun K17 h17 => ?_
  simp [hil, hlp, g1, g2]
  refine h17 _ _ _ ?_
  clear h17 K17
  refine ab_cond_of rfl (fun hc2 => ?_) (fun hc2 => ?_)
  ·have hkl : k < p.1.length := by simp at hc2; omega
   obtain ⟨b1, b2, bm⟩ := getD_get hkl
   obtain ⟨y0, y1⟩ := hpx _ bm
   have htk : (p.1.take (k + 1)).map (fun x => nm.getD x.toNat 0) = (p.1.take k).map (fun x => nm.getD x.toNat 0) ++ [nm.getD (p.1.getD k 0).toNat 0] := by rw [List.take_add_one, b1]; simp
   generalize p.1.getD k 0 = y at *
   obtain ⟨n, rfl⟩ : ∃ n : Nat, y = n := ⟨y.toNat, by omega⟩
   have hnl : n < nm.length := by omega
   obtain ⟨d1, d2, -⟩ := getD_get hnl
   rw [Int.toNat_natCast] at htk
   have hix : (ints nm)[n]? = some (.i .i64 (nm.getD n 0)) := by unfold ints; rw [List.getElem?_map, d1]; rfl
   generalize nm.getD n 0 = z at *
   simp
   refine h16 _ _ _ ?_
   clear h16 K16
   refine ab_seq_k fun K18 h18 => ?_
   refine ab_block_k fun K19 h19 => ?_
   simp [hil, hlp, g1, g2, hkl, b1, b2]
   refine hsl.ixs hix fun a ha => ?_
   simp
   refine ha _ ?_
   simp
   refine appG hw hpt.len (by omega) (by omega) rfl ?_
   intro w' σ' hw' hgr
   simp
   refine h19 _ _ _ (h18 _ _ _ ?_)
   simp [wrap64 (x := (k : Int) + 1) (by omega) (by omega)]
   refine h15 _ _ _ (again (m2 - 1) (by omega) ⟨k + 1, w', by omega, by simp, fun j hj => by rw [hgr.lt hw hj hpt.len]; exact hpt j hj, ?_⟩)
   rw [htk, ints_app]
   exact hw'
  ·have hkl : k = p.1.length := by simp at hc2; omega
   subst hkl
   rw [List.take_length] at hw
   have hrl : (p.1.map fun x => nm.getD x.toNat 0).length = p.1.length := by simp
   have q93 := sorted93 hw.slp (by omega)
   rw [hrl] at q93
   simp
   refine h14 _ _ _ (h12 _ _ _ ?_)
   simp
   refine callK_of q93 ?_
   simp
   refine appG hg hpr.len (by omega) (by omega) rfl ?_
   intro v' σ' hv' hgr
   simp
   refine h10 _ _ _ (h9 _ _ _ ?_)
   simp [wrap64 (x := (i : Int) + 1) (by omega) (by omega)]
   refine h6 _ _ _ (again (m - 1) (by omega) ⟨i + 1, v', by omega, by simp, fun j hj => by rw [hgr.lt hg hj hpr.len]; exact hpr j hj, ?_⟩)
   rw [hts, lls_append]
   exact hv'
 ·have hil : i = A.length := by simp at hc1; omega
  subst hil
  rw [List.take_length] at hg
  simp
  refine h5 _ _ _ (h3 _ _ _ ?_)
  refine ab_seq_k fun K30 h30 => ?_
  simp
  refine h30 _ _ _ ?_
  clear h30 K30
  simp
  refine fin_cut 2 hpr ?_
  simp [-frz, rs55]
  rw [frz_Gn hg (Nat.le_refl _) (by simp)]
theorem among58 {A B : List (List Int × Bool)} {fA fB : Bool} {σ : List O} (hA : A.length ≤ 5000) (hB : B.length = A.length) (hal : ∀ p ∈ A, p.1.length ≤ 5000)
  (hex : ∀ p ∈ A, ∃ q ∈ B, p.1 = q.1) : FSpec Tryz.prog 58 [.ss (lls A) A.length fA, .ss (lls B) B.length fB] σ (.b true) σ := by
 refine FSpec.frame (σ := σ) ?_ (by simp) rfl
 refine fn58.spec0 mixed noIt_ok ?_
 rw [ic58]
 refine ab_seq_k fun K1 h1 => ?_
 simp
 refine h1 _ _ _ ?_
 clear h1 K1
 refine ab_seq_k fun K2 h2 => ?_
 refine ab_seq_k fun K3 h3 => ?_
 simp
 refine h3 _ _ _ ?_
 clear h3 K3
 refine ab_block_k fun K4 h4 => ?_
 refine ab_loop_k (fun m env σ => ∃ i : Nat, i + m = A.length ∧ env = [(0, .ss (lls A) A.length fA), (1, .ss (lls B) B.length fB), (5, .i .i64 i)] ∧ σ = []) A.length ⟨0, by omega, by simp, rfl⟩ ?_
 rintro m env σ ⟨i, hi, rfl, rfl⟩ K5 h5
 rw [ic58_1]
 refine ab_seq_k fun K6 h6 => ?_
 refine ab_seq_k fun K7 h7 => ?_
 simp
 refine h7 _ _ _ ?_
 clear h7 K7
 refine ab_cond_of rfl (fun hc1 => ?_) (fun hc1 => ?_)
 ·have hil : i < A.length := by simp at hc1; omega
  have hp : A[i]? = some A[i] := List.getElem?_eq_getElem hil
  have hpm : A[i] ∈ A := List.getElem_mem hil
  generalize A[i] = p at *
  have hpl := hal p hpm
  obtain ⟨q0, hq0, he0⟩ := hex p hpm
  have hlp := lls_get hp
  obtain ⟨g1, g2⟩ := List.getElem?_eq_some_iff.1 hlp
  simp
  refine h6 _ _ _ ?_
  clear h6 K6
  refine ab_seq_k fun K8 h8 => ?_
  refine ab_block_k fun K9 h9 => ?_
  refine ab_seq_k fun K10 h10 => ?_
  simp
  refine h10 _ _ _ ?_
  clear h10 K10
  refine ab_seq_k fun K11 h11 => ?_
  refine ab_seq_k fun K12 h12 => ?_
  simp
  refine h12 _ _ _ ?_
  clear h12 K12
  refine ab_block_k fun K13 h13 => ?_
  refine ab_loop_k (fun m env σ => ∃ (k : Nat) (fd : Bool), k + m = B.length ∧ (fd = false → ∀ j q, j < k → B[j]? = some q → p.1 ≠ q.1) ∧ env = [(0, .ss (lls A) A.length fA), (1, .ss (lls B) B.length fB), (5, .i .i64 i), (6, .b fd), (7, .i .i64 k)] ∧ σ = []) B.length ⟨0, false, by omega, fun _ j q hj => by omega, by simp, rfl⟩ ?_
  rintro m2 env σ ⟨k, fd, hk, hfd, rfl, rfl⟩ K14 h14
  rw [ic58_0]
  refine ab_seq_k fun K15 h15 => ?_
  refine ab_seq_k fun K16 h16 => ?_
  simp
  refine h16 _ _ _ ?_
  clear h16 K16
  refine ab_cond_of rfl (fun hc2 => ?_) (fun hc2 => ?_)
  ·have hkl : k < B.length := by simp at hc2; omega
   have hq : B[k]? = some B[k] := List.getElem?_eq_getElem hkl
   generalize B[k] = q at *
   have hlq := lls_get hq
   obtain ⟨g3, g4⟩ := List.getElem?_eq_some_iff.1 hlq
   have q25 := fun σ => ints25F (a := p.1) (b := q.1) (fa := p.2) (fb := q.2) (σ := σ) (by omega)
   simp
   refine h15 _ _ _ ?_
   clear h15 K15
   refine ab_seq_k fun K17 h17 => ?_
   refine ab_block_k fun K18 h18 => ?_
   have hend : ∀ env fd', get env 0 = .ss (lls A) A.length fA → get env 1 = .ss (lls B) B.length fB → get env 5 = .i .i64 i → get env 6 = .b fd' → get env 7 = .i .i64 k → fd' = (fd || decide (p.1 = q.1)) → K18 (some 0) env [] := by
    intro env fd' w0 w1 w5 w6 w7 hv
    refine h18 _ _ _ (h17 _ _ _ ?_)
    simp [w0, w1, w5, w6, w7, wrap64 (x := (k : Int) + 1) (by omega) (by omega)]
    refine h14 _ _ _ (again (m2 - 1) (by omega) ⟨k + 1, fd', by omega, fun hf j q' hj hq' => ?_, by simp, rfl⟩)
    rw [hf] at hv
    have hv' := hv.symm
    rw [Bool.or_eq_false_iff, decide_eq_false_iff_not] at hv'
    by_cases h : j < k
    ·exact hfd hv'.1 j q' h hq'
    ·rw [show j = k by omega, hq] at hq'
     cases hq'
     exact hv'.2
   cases fd with
   | true =>
    simp [abDs_consU, drU, recheck_cons, recheck_nil, rcK, IS.dst]
    exact hend _ _ rfl rfl rfl rfl rfl rfl
   | false =>
    simp [abDs_consU, drU, recheck_cons, recheck_nil, rcK, IS.dst, hil, hlp, g1, g2, hkl, hlq, g3, g4]
    refine callK_of (q25 _) ?_
    simp [abDs_consU, drU, recheck_cons, recheck_nil, rcK, IS.dst]
    exact hend _ _ rfl rfl rfl rfl rfl rfl
  ·have hkl : k = B.length := by simp at hc2; omega
   subst hkl
   have hfd1 : fd = true := by
    cases fd with
    | true => rfl
    | false =>
     obtain ⟨j, hj⟩ := List.mem_iff_getElem?.1 hq0
     exact absurd he0 (hfd rfl j q0 (List.getElem?_eq_some_iff.1 hj).1 hj)
   subst hfd1
   simp
   refine h13 _ _ _ (h11 _ _ _ ?_)
   refine ab_seq_k fun K20 h20 => ?_
   simp
   refine h20 _ _ _ ?_
   clear h20 K20
   refine ab_cond_of rfl (fun h => by cases h) (fun _ => ?_)
   simp
   refine h9 _ _ _ (h8 _ _ _ ?_)
   simp [wrap64 (x := (i : Int) + 1) (by omega) (by omega)]
   exact h5 _ _ _ (again (m - 1) (by omega) ⟨i + 1, by omega, by simp, rfl⟩)
 ·simp
  refine h4 _ _ _ (h2 _ _ _ ?_)
  refine ab_seq_k fun K40 h40 => ?_
  simp
  refine h40 _ _ _ ?_
  clear h40 K40
  simp
  exact fin_of 1 (by simp [rs58, hB])
end Go.Ab
end
section
namespace Go.Ab
open Go Go.Proofs
theorem check_of {J : List Lg} (h1 : 1 ≤ J.length) (h2 : J.length ≤ 12) (h : ∀ p ∈ J, (p.1 = 0 ∨ p.1 = 1) ∧ isL J.length p.2.1 = true) : checkJ J = 0 := by
 unfold checkJ
 rw [if_neg, if_neg, if_neg]
 ·simp only [List.any_eq_true, not_exists, not_and, Bool.not_eq_true, Bool.not_eq_false']
  exact fun p hp => (h p hp).2
 ·simp only [List.any_eq_true, not_exists, not_and, Bool.not_eq_true, Bool.not_eq_false', fit, Bool.and_eq_true, decide_eq_true_eq]
  intro p hp
  rcases (h p hp).1 with e | e <;> omega
 ·omega
structure Em (J S : List Lg) (p : Nat → Nat) : Prop where
 lt : ∀ i, i < J.length → p i < S.length
 kind : ∀ i, i < J.length → kd S (p i) = kd J i
 by_ : ∀ i, i < J.length → ∀ j', ((byB S).getD (p i) 0).testBit j' = true ↔ ∃ j, j < J.length ∧ p j = j' ∧ ((byB J).getD i 0).testBit j = true
 ok : ∀ x ∈ J, isL J.length x.2.1 = true
section
variable {J S : List Lg} {p : Nat → Nat}
theorem Em.fr (h : Em J S p) {i g g' : Nat} (hi : i < J.length) (hg : ∀ j, j < J.length → g'.testBit (p j) = g.testBit j) : frB S (byB S) (p i) g' = frB J (byB J) i g := by
 have hb : ∀ j, ((byB J).getD i 0).testBit j = true → j < J.length := fun j => byB_small h.ok hi
 unfold frB
 rw [h.kind i hi]
 by_cases hk : kd J i = 0
 ·rw [if_pos hk, if_pos hk, Bool.eq_iff_iff, decide_eq_true_eq, decide_eq_true_eq, less_zero, less_zero]
  constructor
  ·intro a j hj
   rw [← hg j (hb j hj)]
   exact a _ ((h.by_ i hi _).2 ⟨j, hb j hj, rfl, hj⟩)
  ·intro a j' hj
   obtain ⟨j, hj1, rfl, hj2⟩ := (h.by_ i hi _).1 hj
   rw [hg j hj1]
   exact a j hj2
 ·rw [if_neg hk, if_neg hk, Bool.eq_iff_iff, decide_eq_true_eq, decide_eq_true_eq, and_ne, and_ne]
  constructor
  ·rintro ⟨j', hj, a⟩
   obtain ⟨j, hj1, rfl, hj2⟩ := (h.by_ i hi _).1 hj
   rw [hg j hj1] at a
   exact ⟨j, hj2, a⟩
  ·rintro ⟨j, hj, a⟩
   exact ⟨p j, (h.by_ i hi _).2 ⟨j, hb j hj, rfl, hj⟩, by rw [hg j (hb j hj)]; exact a⟩
theorem Em.gk (h : Em J S p) {s s' : Nat} (hs : ∀ j, j < J.length → s'.testBit (p j) = s.testBit j) : ∀ r i, i < J.length → (gk S (byB S) s' r).testBit (p i) = (gk J (byB J) s r).testBit i := by
 intro r
 induction r with
 | zero => exact hs
 | succ r ih =>
  intro i hi
  rw [gk_step, gk_step, ih i hi, h.fr hi ih]
  simp [hi, h.lt i hi]
theorem gk_late {B : List Nat} {s r d i : Nat} (h : J.length ≤ r) : (Go.Ab.gk J B s (r + d)).testBit i = (Go.Ab.gk J B s J.length).testBit i := by
 have := gk_same (gk_stable (J := J) (B := B) (s := s)) (r + d - J.length)
 rw [show J.length + (r + d - J.length) = r + d by omega] at this
 rw [this]
theorem Em.left (h : Em J S p) (hl : J.length ≤ S.length) {s s' : Nat} (hs : ∀ j, j < J.length → s'.testBit (p j) = s.testBit j) {i : Nat} (hi : i < J.length) : (Go.Ab.left S s').testBit (p i) = (Go.Ab.left J s).testBit i := by
 rw [left_gk (h.lt i hi), left_gk hi, h.gk hs S.length i hi]
 have := gk_late (J := J) (B := byB J) (s := s) (r := S.length) (d := 0) (i := i) hl
 rw [Nat.add_zero] at this
 rw [this]
end
section
variable {J K : List Lg}
theorem by_at {J : List Lg} {i : Nat} {p : Lg} (h : J[i]? = some p) : (byB J).getD i 0 = setB p.2.1 := by
 unfold byB
 rw [List.getD_eq_getElem?_getD, List.getElem?_map, h]; rfl
theorem kd_at {J : List Lg} {i : Nat} {p : Lg} (h : J[i]? = some p) : kd J i = p.1 := by
 unfold kd
 rw [List.getD_eq_getElem?_getD, h]; rfl
end
end Go.Ab
end
section
namespace Go.Ab
open Go Go.Proofs
def wI (l : List Nat) : List Int := l.map fun x : Nat => (x : Int)
@[simp] theorem wI_len {l : List Nat} : (wI l).length = l.length := by simp [wI]
theorem wI_set {l : List Nat} {i x : Nat} : wI (l.set i x) = (wI l).set i (x : Int) := by simp [wI, List.map_set]
theorem wI_get {l : List Nat} {i : Nat} (h : i < l.length) : (wI l).getD i 0 = ((l.getD i 0 : Nat) : Int) := by
 unfold wI
 rw [List.getD_eq_getElem?_getD, List.getD_eq_getElem?_getD, List.getElem?_map, List.getElem?_eq_getElem h]
 rfl
section
variable {N : Nat} {l : List Nat} {q : Nat → Nat}
theorem renL_bl (hl : Names N l) (h : Nm N (fun i => l.getD i 0) q) (hN : N ≤ 12) {s : Nat} (hs : s < 2 ^ N) : renL (wI l) (bl s 12) = bl (setN (fun i => l.getD i 0) s N) 12 := by
 have hm : (bl s 12).map (fun x => (wI l).getD x.toNat 0) = (bl s 12).map fun x => (((fun i => l.getD i 0) x.toNat : Nat) : Int) := List.map_congr_left fun x hx => by
  obtain ⟨j, -, rfl, hb⟩ := bl_mem.1 hx
  have := bit_small hs hb
  rw [Int.toNat_natCast]
  exact wI_get (by rw [hl.len]; exact this)
 have hp := bl_setN h hs (k := 12) hN
 rw [← hm] at hp
 have hsp : (renL (wI l) (bl s 12)).Perm ((bl s 12).map fun x => (wI l).getD x.toNat 0) := sortG_perm
 have hso : (renL (wI l) (bl s 12)).Pairwise (fun a b => ltI b a = false) := sortG_sorted (lt := ltI) (fun a b h => by unfold ltI at h ⊢; rw [decide_eq_true_eq] at h; rw [decide_eq_false_iff_not]; omega) (fun a b c h1 h2 => by unfold ltI at h1 h2 ⊢; rw [decide_eq_false_iff_not] at h1 h2 ⊢; omega)
 have hnd : (renL (wI l) (bl s 12)).Nodup := (hsp.trans hp.symm).nodup_iff.2 ((bl_sorted (s := setN (fun i => l.getD i 0) s N) (k := 12)).imp fun h => by omega)
 refine ssort_eq ?_ bl_sorted fun x => ?_
 ·refine (hso.and hnd).imp fun {a b} h => ?_
  have h1 := h.1
  unfold ltI at h1
  rw [decide_eq_false_iff_not] at h1
  have h2 : a ≠ b := h.2
  omega
 ·exact (hsp.trans hp.symm).mem_iff
end
def entN (J : List Lg) (nm : List Int) (k : Nat) : Lg := (kd J k, renL nm (J.getD k (0, [], true)).2.1, (J.getD k (0, [], true)).2.1.length == 0)
theorem rn_of {J X : List Lg} {l : List Nat} {q : Nat → Nat} (hl : Names J.length l) (h : Nm J.length (fun i => l.getD i 0) q) (h1 : 1 ≤ J.length) (hN : J.length ≤ 12) (hJ : ∀ p ∈ J, isL J.length p.2.1 = true ∧ (p.1 = 0 ∨ p.1 = 1)) (hX : X.length = J.length) (he : ∀ k, k < J.length → X[l.getD k 0]? = some (entN J (wI l) k)) :
  Rn J X (fun i => l.getD i 0) q ∧ checkJ X = 0 ∧ ∀ x ∈ X, x.2.1.length ≤ 1000000 := by
 have hent : ∀ k, k < J.length → ∃ p, J[k]? = some p ∧ p ∈ J ∧ entN J (wI l) k = (p.1, bl (setN (fun i => l.getD i 0) (setB p.2.1) J.length) 12, p.2.1.length == 0) := fun k hk => by
  have hp : J[k]? = some J[k] := List.getElem?_eq_getElem hk
  have hpm : J[k] ∈ J := List.getElem_mem hk
  generalize J[k] = p at *
  have hL := (hJ p hpm).1
  refine ⟨p, hp, hpm, ?_⟩
  unfold entN
  rw [kd_at hp, List.getD_eq_getElem?_getD, hp]
  show (p.1, renL (wI l) p.2.1, p.2.1.length == 0) = _
  rw [← renL_bl hl h hN (setB_N hL), bl_setB hL (by omega)]
 have hin : ∀ x ∈ X, ∃ k, k < J.length ∧ x = entN J (wI l) k := fun x hx => by
  obtain ⟨i, hi⟩ := List.mem_iff_getElem?.1 hx
  have hil : i < J.length := by rw [← hX]; exact (List.getElem?_eq_some_iff.1 hi).1
  have hq := h.fro i hil
  have := he (q i) hq.1
  rw [show l.getD (q i) 0 = i from hq.2, hi] at this
  exact ⟨q i, hq.1, Option.some.inj this⟩
 have hok : ∀ x ∈ X, isL X.length x.2.1 = true ∧ (x.1 = 0 ∨ x.1 = 1) := fun x hx => by
  obtain ⟨k, hk, rfl⟩ := hin x hx
  obtain ⟨p, -, hpm, e⟩ := hent k hk
  rw [e, hX]
  exact ⟨isL_bl (setN_lt h), (hJ p hpm).2⟩
 refine ⟨⟨hX, h, fun i hi => ?_, fun i j hi hj => ?_, fun x hx => (hJ x hx).1, fun x hx => (hok x hx).1⟩, check_of (by omega) (by omega) (fun x hx => ⟨(hok x hx).2, (hok x hx).1⟩), fun x hx => ?_⟩
 ·obtain ⟨p, hp, -, e⟩ := hent i hi
  have := he i hi
  rw [e] at this
  show kd X (l.getD i 0) = _
  rw [kd_at this, kd_at hp]
 ·obtain ⟨p, hp, hpm, e⟩ := hent i hi
  have := he i hi
  rw [e] at this
  have hlt := setN_lt h (g := setB p.2.1)
  show ((byB X).getD (l.getD i 0) 0).testBit (l.getD j 0) = _
  rw [by_at this, by_at hp]
  show (setB (bl (setN (fun i => l.getD i 0) (setB p.2.1) J.length) 12)).testBit (l.getD j 0) = _
  rw [setB_bl (Nat.lt_of_lt_of_le hlt (Nat.pow_le_pow_right (by omega) hN))]
  exact setN_at h hj
 ·obtain ⟨k, hk, rfl⟩ := hin x hx
  obtain ⟨p, -, hpm, e⟩ := hent k hk
  rw [e]
  have := bl_len (s := setN (fun i => l.getD i 0) (setB p.2.1) J.length) (k := 12)
  exact Nat.le_trans this (by omega)
end Go.Ab
end
section
namespace Go.Ab
open Go Go.Proofs
theorem jam54' {v : V} {σ : List O} (hv : cellsOf v = some [v]) : FSpec Tryz.prog 54 [v] σ (.agg [v]) (σ ++ [.row 0 [v]]) := by
 refine fn54.spec mixed noIt_ok ?_
 rw [ic54]
 refine ab_seq_k fun K1 h1 => ?_
 simp [hv]
 refine h1 _ _ _ ?_
 clear h1 K1
 refine ab_seq_k fun K2 h2 => ?_
 simp [hv]
 refine h2 _ _ _ ?_
 simp
 refine fin_all ?_
 simp [rs54]
end Go.Ab
end
section
namespace Go.Ab
open Go Go.Proofs
theorem locks84 {J : List Lg} {f : Bool} {σ : List O} (hJ : JOK J) : FSpecQ Tryz.prog 84 [heapV J f] σ (fun v σ' => Gr σ.length 1 σ' v (locksTo J (2 ^ J.length)).length (us (locksTo J (2 ^ J.length)))) := by
 have hN := hJ.2.1
 have hh : (cellsOf (heapV J f)) = some [heapV J f] := rfl
 have hlk := fun σ s hs => isLock89 (J := J) (f := f) (s := s) (σ := σ) hJ hs
 have hat : ∀ σ, HeapAt J f (heapV J f) σ := fun σ => .inl ⟨_, _, rfl⟩
 have hpw := pow12 hN
 have hlb : ∀ s, s < 2 ^ J.length → s < 65536 := fun s h => by omega
 refine qf84.specQ mixed itT_ok ?_
 rw [q84]
 generalize heapV J f = H at *
 refine ab_seq_k fun K1 h1 => ?_
 simp [hh]
 refine h1 _ _ _ ?_
 clear h1 K1
 refine ab_seq_k fun K2 h2 => ?_
 simp
 refine h2 _ _ _ ?_
 clear h2 K2
 refine ab_seq_k fun K3 h3 => ?_
 refine ab_seq_k fun K4 h4 => ?_
 simp
 refine callK_of (sets91 hh) ?_
 simp
 refine h4 _ _ _ ?_
 clear h4 K4
 refine ab_block_k fun K5 h5 => ?_
 generalize hL0 : σ.length = L0 at *
 generalize hW : 2 ^ J.length = W at *
 refine ⟨W, XSet, SetAt J f (L0 + 1 + 1) H, sets_it hN hW, fun i σ2 => σ2[L0]? = some (.row 0 [H]) ∧ σ2[L0 + 1 + 1]? = some (.row 0 [H]) ∧ ∃ v, σ2[L0 + 1]? = some (.row 0 [v]) ∧ Gr (L0 + 3) 1 σ2 v (locksTo J i).length (us (locksTo J i)), fun i σ2 h => ⟨h.2.1, hat _⟩, ⟨?_, ?_, .ss [] 0 true, ?_, ?_⟩, ?_, ?_⟩
 ·rw [List.getElem?_append_right (by omega), hL0, Nat.sub_self]; rfl
 ·rw [List.getElem?_append_right (by omega), hL0, show L0 + 1 + 1 - L0 = 2 by omega]; rfl
 ·rw [List.getElem?_append_right (by omega), hL0, show L0 + 1 - L0 = 1 by omega]; rfl
 ·simpa [locksTo, us] using Gr.nil
 ·rintro i x σ2 g hi ⟨rfl, rfl⟩ ⟨q0, q2, v, q1, hv⟩
  refine ⟨rfl, ?_⟩
  generalize hKR : roundK _ _ _ = KR
  rw [List.append_nil]
  simp
  rw [q84_0]
  have hi16 := hlb i hi
  obtain ⟨hq2, -⟩ := List.getElem?_eq_some_iff.1 q2
  have hc0 : (σ2 ++ [O.row 0 [V.i .u16 i]])[σ2.length]? = some (O.row 0 [V.i .u16 i]) := by simp
  replace q0 := app_get (g := [O.row 0 [V.i .u16 i]]) q0
  replace q1 := app_get (g := [O.row 0 [V.i .u16 i]]) q1
  replace q2 := app_get (g := [O.row 0 [V.i .u16 i]]) q2
  replace hv := hv.app (g := [O.row 0 [V.i .u16 i]])
  have hcl : L0 + 3 ≤ σ2.length := by omega
  have hdone : ∀ σ3 v, σ3[L0]? = some (.row 0 [H]) → σ3[L0 + 1 + 1]? = some (.row 0 [H]) → σ3[L0 + 1]? = some (.row 0 [v]) → Gr (L0 + 3) 1 σ3 v (locksTo J (i + 1)).length (us (locksTo J (i + 1))) → ∀ env, KR (some 0) env σ3 := by
   intro σ3 v a1 a2 a3 a4 env
   rw [← hKR]
   exact ⟨rfl, .inl ⟨a1, a2, v, a3, a4⟩⟩
  clear hKR hq2
  have hU : σ2.length < (σ2 ++ [O.row 0 [V.i .u16 i]]).length := by simp
  generalize σ2 ++ [O.row 0 [V.i .u16 i]] = U at *
  generalize σ2.length = c at *
  obtain ⟨hq0, q0'⟩ := List.getElem?_eq_some_iff.1 q0
  obtain ⟨hq1, q1'⟩ := List.getElem?_eq_some_iff.1 q1
  obtain ⟨hqc, qc'⟩ := List.getElem?_eq_some_iff.1 hc0
  have hks := locksTo_succ (J := J) (i := i)
  have hkl := locksTo_len (J := J) (i := i)
  have hlt : ∀ x ∈ locksTo J i, x < 65536 := fun x hx => by
   have := List.mem_range.1 (List.mem_filter.1 hx).1
   omega
  have h110 := contains110 (first := []) (fp := 111) (cap := [V.p c 0 0]) (p := fun x => decide (less x i = 0)) hv.slp (by omega) (fun x hx => part111 (hlt x hx) hi16 hc0)
  refine ab_block_k fun K16 h16 => ?_
  refine ab_seq_k fun K18 h18 => ?_
  have hK18 : ∀ env cc, get env 3 = .p (L0 + 1) 0 0 → get env 4 = .p c 0 0 → get env 20 = .b cc → cc = minLock J i → K18 (some 0) env U := by
   intro env cc w3 w4 w20 hcv
   refine h18 _ _ _ ?_
   clear h18
   cases cc with
   | false =>
    rw [← hcv, if_neg (by simp)] at hks
    refine ab_cond_of w20 (fun h => by cases h) (fun _ => ?_)
    simp
    refine h16 _ _ _ ?_
    exact hdone U v q0 q2 q1 (by rw [hks]; exact hv) _
   | true =>
    rw [← hcv, if_pos rfl] at hks
    refine ab_cond_of w20 (fun _ => ?_) (fun h => by cases h)
    simp [w3, w4, q1, q1', hc0, qc']
    refine appG hv (by omega) (by omega) (by omega) rfl ?_
    intro v' σ' hv' hgr
    have hbid : ∀ j, j < L0 + 3 → idOf v ≠ some j := fun j hj e => by have := (hv.id_ge e).1; omega
    have r0 := hgr.get (hbid L0 (by omega)) q0
    have r1 := hgr.get (hbid (L0 + 1) (by omega)) q1
    have r2 := hgr.get (hbid (L0 + 1 + 1) (by omega)) q2
    obtain ⟨hr1, r1'⟩ := List.getElem?_eq_some_iff.1 r1
    simp [w3, w4, r1, r1', hv'.one]
    refine h16 _ _ _ ?_
    refine hdone _ v' ?_ ?_ (List.getElem?_set_self hr1) ?_ _
    ·rw [List.getElem?_set_ne (by omega)]; exact r0
    ·rw [List.getElem?_set_ne (by omega)]; exact r2
    ·have h1 := hv'.setlt (i := L0 + 1) (o := O.row 0 [v']) (by omega)
     rw [hks]
     simpa [us] using h1
  clear h18 hdone
  by_cases hi0 : i = 0
  ·have hm : minLock J i = false := by simp [minLock, lockB, hi0]
   simp [hc0, qc', hi0]
   exact hK18 _ _ rfl rfl rfl hm.symm
  ·cases hl : lockB J i with
   | false =>
    have hm : minLock J i = false := by simp [minLock, hl]
    simp [hc0, qc', hi0, q0, q0']
    refine callK_of (hlk _ _ hi) ?_
    simp [hl]
    exact hK18 _ _ rfl rfl rfl hm.symm
   | true =>
    rw [any_min hl] at h110
    simp [hc0, qc', hi0, q0, q0']
    refine callK_of (hlk _ _ hi) ?_
    simp [hl, q1, q1']
    refine callK_of h110 ?_
    simp
    exact hK18 _ _ rfl rfl rfl rfl
 ·rintro σ2 ⟨q0, q2, v, q1, hv⟩
  refine h5 _ _ _ (h3 _ _ _ ?_)
  obtain ⟨hq1, q1'⟩ := List.getElem?_eq_some_iff.1 q1
  refine ab_seq_k fun K30 h30 => ?_
  simp [q1, q1']
  refine callR_of (tight113 hv.slp ?_ ?_ ?_) ?_
  ·have := locksTo_len (J := J) (i := W); omega
  ·intro s hs
   have := List.mem_range.1 (List.mem_filter.1 hs).1
   omega
  ·intro i k x y hx hy h
   have he := locks_anti (List.mem_of_getElem? hx) (List.mem_of_getElem? hy) h
   subst he
   have hnd : (locksTo J W).Nodup := List.Nodup.sublist List.filter_sublist List.nodup_range
   exact (List.getElem?_inj (List.getElem?_eq_some_iff.1 hy).1 hnd).1 (hy.trans hx.symm)
  ·intro v' σ' hv'
   simp
   refine h30 _ _ _ ?_
   simp
   refine fin_Q ?_
   simp [rs84]
   exact hv'.mono (by omega)
theorem locks84F {J : List Lg} {f : Bool} {σ : List O} (hJ : JOK J) : FSpec Tryz.prog 84 [heapV J f] σ (.ss (us (locksTo J (2 ^ J.length))) (locksTo J (2 ^ J.length)).length ((locksTo J (2 ^ J.length)).length == 0)) σ := by
 refine FSpec.frame (σ := σ) ?_ (by simp) (by simp)
 exact (locks84 hJ).freeze fun v σ' h => ⟨2, frz_G h (by simp)⟩
end Go.Ab
end
section
namespace Go.Ab
open Go Go.Proofs
def bV (R : List Nat) : List (List Int × Bool) := R.map fun s => (bl s 12, (bl s 12).length == 0)
@[simp] theorem bV_len {R : List Nat} : (bV R).length = R.length := by simp [bV]
theorem lls_bV {R : List Nat} : lls (bV R) = lv R := by unfold lls bV lv; rw [List.map_map]; rfl
end Go.Ab
end
section
namespace Go.Ab
open Go Go.Proofs
def locksV (J : List Lg) : V := if checkJ J ≠ 0 then .tup [.ss [] 0 true, .i .i64 (checkJ J)] else .tup [.ss (lv (lexS (locksTo J (2 ^ J.length)))) (locksTo J (2 ^ J.length)).length ((locksTo J (2 ^ J.length)).length == 0), .i .i64 0]
theorem locksV_pure {J} : (locksV J).pure = true := by
 unfold locksV
 split
 ·rfl
 ·simp
theorem locks36 {J : List Lg} {f : Bool} {σ : List O} (hJ : J.length ≤ 1000000) (hl : ∀ x ∈ J, x.2.1.length ≤ 1000000) : FSpec Tryz.prog 36 [jamV J f] σ (locksV J) σ := by
 refine FSpec.frame (σ := σ) ?_ (by simp) locksV_pure
 have h62 := fun σ => open62 (f := f) (l := []) (fl := true) (σ := σ) hJ hl (by simp)
 refine fn36.spec0 mixed noIt_ok ?_
 rw [ic36]
 refine ab_seq_k fun K1 h1 => ?_
 simp
 refine h1 _ _ _ ?_
 clear h1 K1
 refine ab_seq_k fun K2 h2 => ?_
 simp
 refine callK_of (h62 _) ?_
 rcases open_nil (f := f) hl with ⟨hc, ho⟩ | ⟨hc, hJO, ho⟩
 ·have hv : locksV J = .tup [.ss [] 0 true, .i .i64 (checkJ J)] := by unfold locksV; rw [if_pos hc]
  rw [ho]
  simp
  refine h2 _ _ _ ?_
  clear h2 K2
  refine ab_seq_k fun K3 h3 => ?_
  refine ab_seq_k fun K5 h5 => ?_
  simp
  refine h5 _ _ _ ?_
  clear h5 K5
  refine ab_cond_of rfl (fun _ => ?_) (fun h => by simp at h; omega)
  refine ab_seq_k fun K6 h6 => ?_
  simp
  refine h6 _ _ _ ?_
  clear h6 K6
  simp
  refine fin_of 3 ?_
  simp [rs36, hv]
 ·have hN := hJO.2.1
  have hpw := pow12 hN
  have hk := fun σ => locks84F (J := J) (f := f) (σ := σ) hJO
  have hkl := locksTo_len (J := J) (i := 2 ^ J.length)
  have hmem : ∀ s ∈ locksTo J (2 ^ J.length), s < 2 ^ 12 := fun s hs => by
   have := (List.mem_filter.1 hs).1
   rw [List.mem_range] at this
   omega
  have hv : locksV J = .tup [.ss (lv (lexS (locksTo J (2 ^ J.length)))) (locksTo J (2 ^ J.length)).length ((locksTo J (2 ^ J.length)).length == 0), .i .i64 0] := by unfold locksV; rw [if_neg (by simp [hc])]
  have hls := fun f σ => lists76 (L := locksTo J (2 ^ J.length)) (f := f) (σ := σ) hmem (by omega)
  generalize locksTo J (2 ^ J.length) = L at *
  rw [ho]
  simp
  refine h2 _ _ _ ?_
  clear h2 K2
  refine ab_seq_k fun K3 h3 => ?_
  refine ab_seq_k fun K5 h5 => ?_
  simp
  refine h5 _ _ _ ?_
  clear h5 K5
  refine ab_cond_of rfl (fun h => by simp at h) (fun _ => ?_)
  simp
  refine h3 _ _ _ ?_
  clear h3 K3
  refine ab_seq_k fun K7 h7 => ?_
  simp
  refine callK_of (hk _) ?_
  simp
  refine callK_of (hls _ _) ?_
  simp
  refine h7 _ _ _ ?_
  simp
  refine fin_of 3 ?_
  simp [rs36, hv]
end Go.Ab
end
section
namespace Go.Ab
open Go Go.Proofs
theorem works_run : runY 18 [] = some (.b true, []) := by kernel_rfl
theorem works_ok : FSpec Tryz.prog 18 [] [] (.b true) [] := runY_ok works_run
theorem wk (σ : List O) : FSpec Tryz.prog 18 [] σ (.b true) σ := FSpec.frame works_ok (by simp) rfl
end Go.Ab
end
section
namespace Go.Ab
open Go Go.Proofs
def ic13_0 : IC := (.seq (.seq (.reg [.op (some 39) none (.mov (.t 7)), .op (some 40) none (.mov (.t 5)), .op (some 41) none (.bin .lss (.t 39) (.t 40))] (some [1, 2, 5, 6, 7, 41])) (.cond (.t 41) .skip (.exit 0))) (.seq (.block 1 (.reg [.op (some 44) none (.mov (.t 6)), .op (some 45) none (.mov (.t 7)), .op (some 46) none (.bsl true 1 1 [(.i .i64 0)] [(0, 1, (.t 45))]), .op (some 47) none (.app 1 8 (.t 44) (.t 46)), .op (some 6) none (.mov (.t 47))] (some [1, 2, 5, 6, 7]))) (.reg [.op (some 42) none (.mov (.t 7)), .op (some 43) none (.bin .add (.t 42) (.c (.i .i64 1))), .op (some 7) none (.mov (.t 43))] (some [1, 2, 5, 6, 7]))))
def ic13_1 : IC := (.seq (.seq (.reg [.op (some 48) none (.mov (.t 8)), .op (some 49) none (.mov (.t 1)), .op (some 50) none (.len (.t 49)), .op (some 51) none (.bin .lss (.t 48) (.t 50))] (some [1, 2, 5, 6, 8, 51])) (.cond (.t 51) .skip (.exit 2))) (.seq (.block 3 (.seq (.drw [(.op (some 54) none (.mov (.t 8)), []), (.op (some 55) none (.mov (.t 5)), []), (.op (some 56) none (.bin .rem (.t 54) (.t 55)), []), (.op (some 57) none (.mov (.t 1)), []), (.op (some 58) none (.mov (.t 8)), []), (.op (some 59) none (.ixs 1 (.t 57) (.t 58)), []), (.op (some 60) none (.load1 (.t 59)), []), (.op (some 61) none (.conv .i64 (.t 60)), []), (.op (some 62) none (.mov (.t 5)), []), (.op (some 63) none (.bin .rem (.t 61) (.t 62)), []), (.op (some 9) none (.mov (.t 56)), []), (.op (some 10) none (.mov (.t 63)), [])] (some [1, 2, 5, 6, 8, 9, 10])) (.drw [(.op (some 64) none (.mov (.t 6)), []), (.op (some 65) none (.mov (.t 9)), []), (.op (some 66) none (.mov (.t 6)), [13]), (.op (some 67) none (.mov (.t 10)), [13]), (.op (some 68) none (.mov (.t 6)), []), (.op (some 69) none (.mov (.t 10)), []), (.op (some 70) none (.ixs 1 (.t 68) (.t 69)), []), (.op (some 71) none (.load1 (.t 70)), []), (.op (some 72) none (.mov (.t 6)), []), (.op (some 73) none (.mov (.t 9)), []), (.op (some 74) none (.ixs 1 (.t 72) (.t 73)), []), (.op (some 75) none (.load1 (.t 74)), []), (.op (some 76) none (.ixs 1 (.t 64) (.t 65)), []), (.op none none (.store1 (.t 76) (.t 71)), []), (.op (some 77) none (.ixs 1 (.t 66) (.t 67)), []), (.op none none (.store1 (.t 77) (.t 75)), [])] (some [1, 2, 5, 6, 8])))) (.reg [.op (some 52) none (.mov (.t 8)), .op (some 53) none (.bin .add (.t 52) (.c (.i .i64 1))), .op (some 8) none (.mov (.t 53))] (some [1, 2, 5, 6, 8]))))
def ic13_2 : IC := (.seq (.seq (.reg [.op (some 81) none (.mov (.t 12)), .op (some 82) none (.mov (.t 5)), .op (some 83) none (.bin .lss (.t 81) (.t 82))] (some [2, 5, 6, 11, 12, 83])) (.cond (.t 83) .skip (.exit 4))) (.seq (.block 5 (.drw [(.op (some 86) none (.fad 0 (.t 11)), []), (.op (some 87) none (.load1 (.t 86)), []), (.op (some 88) none (.mov (.t 6)), []), (.op (some 89) none (.mov (.t 12)), []), (.op (some 90) none (.ixs 1 (.t 88) (.t 89)), []), (.op (some 91) none (.load1 (.t 90)), []), (.op (some 92) none (.fad 0 (.t 2)), []), (.op (some 93) none (.load1 (.t 92)), []), (.op (some 94) none (.mov (.t 12)), []), (.op (some 95) none (.ixs 2 (.t 93) (.t 94)), []), (.op (some 96) none (.fad 0 (.t 95)), []), (.op (some 97) none (.load1 (.t 96)), []), (.op (some 98) none (.fad 0 (.t 2)), []), (.op (some 99) none (.load1 (.t 98)), []), (.op (some 100) none (.mov (.t 12)), []), (.op (some 101) none (.ixs 2 (.t 99) (.t 100)), []), (.op (some 102) none (.fad 1 (.t 101)), []), (.op (some 103) none (.load1 (.t 102)), []), (.op (some 104) none (.bsl true 1 1 [(.ss [] 0 true)] [(0, 1, (.t 103))]), []), (.call (some 105) none 56 [(.t 104)], []), (.op (some 106) none (.mov (.t 6)), []), (.call (some 107) none 55 [(.t 105), (.t 106)], []), (.op (some 108) none (.ixs 1 (.t 107) (.c (.i .i64 0))), []), (.op (some 109) none (.load1 (.t 108)), []), (.op (some 110) none (.build [(.i .i64 0), (.ss [] 0 true)] [(0, 1, (.t 97)), (1, 1, (.t 109))]), []), (.op (some 111) none (.ixs 2 (.t 87) (.t 91)), []), (.op none none (.storeA 2 (.t 111) (.t 110)), [])] (some [2, 5, 6, 11, 12]))) (.reg [.op (some 84) none (.mov (.t 12)), .op (some 85) none (.bin .add (.t 84) (.c (.i .i64 1))), .op (some 12) none (.mov (.t 85))] (some [2, 5, 6, 11, 12]))))
def ic13_3 : IC := (.seq (.seq (.reg [.op (some 194) none (.mov (.t 25)), .op (some 195) none (.mov (.t 13)), .op (some 196) none (.len (.t 195)), .op (some 197) none (.bin .lss (.t 194) (.t 196))] (some [5, 6, 13, 15, 17, 19, 25, 197])) (.cond (.t 197) .skip (.exit 6))) (.seq (.block 7 (.seq (.reg [.op (some 200) none (.mov (.t 13)), .op (some 201) none (.mov (.t 25)), .op (some 202) none (.ixs 1 (.t 200) (.t 201)), .op (some 203) none (.load1 (.t 202)), .op (some 204) none (.mov (.t 5)), .call (some 205) none 57 [(.t 203), (.t 204)], .op (some 206) none (.not (.t 205))] (some [5, 6, 13, 15, 17, 19, 25, 206])) (.cond (.t 206) (.seq (.reg [.op (some 4) none (.mov (.c (.b false)))] (some [4])) .ret) .skip))) (.reg [.op (some 198) none (.mov (.t 25)), .op (some 199) none (.bin .add (.t 198) (.c (.i .i64 1))), .op (some 25) none (.mov (.t 199))] (some [5, 6, 13, 15, 17, 19, 25]))))
def ic13_4 : IC := (.seq (.seq (.reg [.op (some 207) none (.mov (.t 26)), .op (some 208) none (.mov (.t 17)), .op (some 209) none (.len (.t 208)), .op (some 210) none (.bin .lss (.t 207) (.t 209))] (some [5, 6, 13, 15, 17, 19, 26, 210])) (.cond (.t 210) .skip (.exit 8))) (.seq (.block 9 (.seq (.reg [.op (some 213) none (.mov (.t 17)), .op (some 214) none (.mov (.t 26)), .op (some 215) none (.ixs 1 (.t 213) (.t 214)), .op (some 216) none (.load1 (.t 215)), .op (some 217) none (.mov (.t 5)), .call (some 218) none 57 [(.t 216), (.t 217)], .op (some 219) none (.not (.t 218))] (some [5, 6, 13, 15, 17, 19, 26, 219])) (.cond (.t 219) (.seq (.reg [.op (some 4) none (.mov (.c (.b false)))] (some [4])) .ret) .skip))) (.reg [.op (some 211) none (.mov (.t 26)), .op (some 212) none (.bin .add (.t 211) (.c (.i .i64 1))), .op (some 26) none (.mov (.t 212))] (some [5, 6, 13, 15, 17, 19, 26]))))
def ic13 : IC := (.seq (.reg [.op (some 2) none (.box (.t 0)), .op (some 4) none (.mov (.c (.b false)))] (some [1, 2])) (.seq (.seq (.reg [.op (some 27) none (.loadA 1 (.t 2)), .call (some 28) none 47 [(.t 27)], .op (some 29) none (.not (.t 28)), .op (some 30) none (.mov (.t 29)), .op (some 31) (some (30, false)) (.mov (.t 1)), .op (some 32) (some (30, false)) (.len (.t 31)), .op (some 33) (some (30, false)) (.bin .gtr (.t 32) (.c (.i .i64 20))), .op (some 34) none (.pick (.t 30) (.c (.b true)) (.t 33))] (some [1, 2, 34])) (.cond (.t 34) (.seq (.reg [.call (some 35) none 18 [], .op (some 4) none (.mov (.t 35))] (some [4])) .ret) .skip)) (.seq (.reg [.op (some 36) none (.fad 0 (.t 2)), .op (some 37) none (.load1 (.t 36)), .op (some 38) none (.len (.t 37)), .op (some 5) none (.mov (.t 38))] (some [1, 2, 5])) (.seq (.reg [.op (some 6) none (.mov (.c (.ss [] 0 true)))] (some [1, 2, 5, 6])) (.seq (.seq (.reg [.op (some 7) none (.mov (.c (.i .i64 0)))] (some [1, 2, 5, 6, 7])) (.block 0 (.loop (some [1, 2, 5, 6, 7]) ic13_0))) (.seq (.seq (.reg [.op (some 8) none (.mov (.c (.i .i64 0)))] (some [1, 2, 5, 6, 8])) (.block 2 (.loop (some [1, 2, 5, 6, 8]) ic13_1))) (.seq (.reg [.op (some 78) none (.mov (.t 5)), .op (some 79) none (.mksl 2 32 [(.i .i64 0), (.ss [] 0 true)] (.t 78) (.t 78)), .call (some 80) none 54 [(.t 79)], .op (some 11) none (.alloc [(.ss [] 0 true)]), .op none none (.storeA 1 (.t 11) (.t 80))] (some [2, 5, 6, 11])) (.seq (.seq (.reg [.op (some 12) none (.mov (.c (.i .i64 0)))] (some [2, 5, 6, 11, 12])) (.block 4 (.loop (some [2, 5, 6, 11, 12]) ic13_2))) (.seq (.reg [.op (some 113) none (.loadA 1 (.t 2)), .call (some 114) none 31 [(.t 113)], .op (some 112) none (.mov (.t 114)), .op (some 115) none (.ext 0 (.t 112)), .op (some 116) none (.ext 1 (.t 112)), .op (some 13) none (.mov (.t 115)), .op (some 14) none (.mov (.t 116))] (some [2, 5, 6, 11, 13, 14])) (.seq (.reg [.op (some 118) none (.loadA 1 (.t 11)), .call (some 119) none 31 [(.t 118)], .op (some 117) none (.mov (.t 119)), .op (some 120) none (.ext 0 (.t 117)), .op (some 121) none (.ext 1 (.t 117)), .op (some 15) none (.mov (.t 120)), .op (some 16) none (.mov (.t 121))] (some [2, 5, 6, 11, 13, 14, 15, 16])) (.seq (.reg [.op (some 123) none (.loadA 1 (.t 2)), .call (some 124) none 36 [(.t 123)], .op (some 122) none (.mov (.t 124)), .op (some 125) none (.ext 0 (.t 122)), .op (some 126) none (.ext 1 (.t 122)), .op (some 17) none (.mov (.t 125)), .op (some 18) none (.mov (.t 126))] (some [2, 5, 6, 11, 13, 14, 15, 16, 17, 18])) (.seq (.reg [.op (some 128) none (.loadA 1 (.t 11)), .call (some 129) none 36 [(.t 128)], .op (some 127) none (.mov (.t 129)), .op (some 130) none (.ext 0 (.t 127)), .op (some 131) none (.ext 1 (.t 127)), .op (some 19) none (.mov (.t 130)), .op (some 20) none (.mov (.t 131))] (some [2, 5, 6, 11, 13, 14, 15, 16, 17, 18, 19, 20])) (.seq (.reg [.op (some 133) none (.loadA 1 (.t 2)), .call (some 134) none 29 [(.t 133)], .op (some 132) none (.mov (.t 134)), .op (some 135) none (.ext 0 (.t 132)), .op (some 136) none (.ext 1 (.t 132)), .op (some 21) none (.mov (.t 135)), .op (some 22) none (.mov (.t 136))] (some [5, 6, 11, 13, 14, 15, 16, 17, 18, 19, 20, 21, 22])) (.seq (.reg [.op (some 138) none (.loadA 1 (.t 11)), .call (some 139) none 29 [(.t 138)], .op (some 137) none (.mov (.t 139)), .op (some 140) none (.ext 0 (.t 137)), .op (some 141) none (.ext 1 (.t 137)), .op (some 23) none (.mov (.t 140)), .op (some 24) none (.mov (.t 141))] (some [5, 6, 13, 14, 15, 16, 17, 18, 19, 20, 21, 22, 23, 24])) (.seq (.seq (.reg [.op (some 142) none (.mov (.t 14)), .op (some 143) none (.bin .neq (.t 142) (.c (.i .i64 0))), .op (some 144) none (.mov (.t 143)), .op (some 145) (some (144, false)) (.mov (.t 16)), .op (some 146) (some (144, false)) (.bin .neq (.t 145) (.c (.i .i64 0))), .op (some 147) none (.pick (.t 144) (.c (.b true)) (.t 146)), .op (some 148) none (.mov (.t 147)), .op (some 149) (some (148, false)) (.mov (.t 18)), .op (some 150) (some (148, false)) (.bin .neq (.t 149) (.c (.i .i64 0))), .op (some 151) none (.pick (.t 148) (.c (.b true)) (.t 150)), .op (some 152) none (.mov (.t 151)), .op (some 153) (some (152, false)) (.mov (.t 20)), .op (some 154) (some (152, false)) (.bin .neq (.t 153) (.c (.i .i64 0))), .op (some 155) none (.pick (.t 152) (.c (.b true)) (.t 154)), .op (some 156) none (.mov (.t 155)), .op (some 157) (some (156, false)) (.mov (.t 22)), .op (some 158) (some (156, false)) (.bin .neq (.t 157) (.c (.i .i64 0))), .op (some 159) none (.pick (.t 156) (.c (.b true)) (.t 158)), .op (some 160) none (.mov (.t 159)), .op (some 161) (some (160, false)) (.mov (.t 24)), .op (some 162) (some (160, false)) (.bin .neq (.t 161) (.c (.i .i64 0))), .op (some 163) none (.pick (.t 160) (.c (.b true)) (.t 162)), .op (some 164) none (.mov (.t 163)), .op (some 165) (some (164, false)) (.mov (.t 13)), .op (some 166) (some (164, false)) (.len (.t 165)), .op (some 167) (some (164, false)) (.mov (.t 15)), .op (some 168) (some (164, false)) (.len (.t 167)), .op (some 169) (some (164, false)) (.bin .neq (.t 166) (.t 168)), .op (some 170) none (.pick (.t 164) (.c (.b true)) (.t 169)), .op (some 171) none (.mov (.t 170)), .op (some 172) (some (171, false)) (.mov (.t 17)), .op (some 173) (some (171, false)) (.len (.t 172)), .op (some 174) (some (171, false)) (.mov (.t 19)), .op (some 175) (some (171, false)) (.len (.t 174)), .op (some 176) (some (171, false)) (.bin .neq (.t 173) (.t 175)), .op (some 177) none (.pick (.t 171) (.c (.b true)) (.t 176)), .op (some 178) none (.mov (.t 177)), .op (some 179) (some (178, false)) (.mov (.t 21)), .op (some 180) (some (178, false)) (.len (.t 179)), .op (some 181) (some (178, false)) (.mov (.t 23)), .op (some 182) (some (178, false)) (.len (.t 181)), .op (some 183) (some (178, false)) (.bin .neq (.t 180) (.t 182)), .op (some 184) none (.pick (.t 178) (.c (.b true)) (.t 183))] (some [5, 6, 13, 15, 17, 19, 184])) (.cond (.t 184) (.seq (.reg [.op (some 4) none (.mov (.c (.b false)))] (some [4])) .ret) .skip)) (.seq (.seq (.reg [.op (some 185) none (.mov (.t 13)), .op (some 186) none (.len (.t 185)), .op (some 187) none (.bin .gtr (.t 186) (.c (.i .i64 40))), .op (some 188) none (.mov (.t 187)), .op (some 189) (some (188, false)) (.mov (.t 17)), .op (some 190) (some (188, false)) (.len (.t 189)), .op (some 191) (some (188, false)) (.bin .gtr (.t 190) (.c (.i .i64 40))), .op (some 192) none (.pick (.t 188) (.c (.b true)) (.t 191))] (some [5, 6, 13, 15, 17, 19, 192])) (.cond (.t 192) (.seq (.reg [.call (some 193) none 18 [], .op (some 4) none (.mov (.t 193))] (some [4])) .ret) .skip)) (.seq (.seq (.reg [.op (some 25) none (.mov (.c (.i .i64 0)))] (some [5, 6, 13, 15, 17, 19, 25])) (.block 6 (.loop (some [5, 6, 13, 15, 17, 19, 25]) ic13_3))) (.seq (.seq (.reg [.op (some 26) none (.mov (.c (.i .i64 0)))] (some [5, 6, 13, 15, 17, 19, 26])) (.block 8 (.loop (some [5, 6, 13, 15, 17, 19, 26]) ic13_4))) (.seq (.reg [.op (some 220) none (.mov (.t 13)), .op (some 221) none (.mov (.t 6)), .call (some 222) none 55 [(.t 220), (.t 221)], .op (some 223) none (.mov (.t 15)), .call (some 224) none 58 [(.t 222), (.t 223)], .op (some 225) none (.mov (.t 224)), .op (some 226) (some (225, true)) (.mov (.t 17)), .op (some 227) (some (225, true)) (.mov (.t 6)), .call (some 228) (some (225, true)) 55 [(.t 226), (.t 227)], .op (some 229) (some (225, true)) (.mov (.t 19)), .call (some 230) (some (225, true)) 58 [(.t 228), (.t 229)], .op (some 231) none (.pick (.t 225) (.t 230) (.c (.b false))), .op (some 232) none (.mov (.t 231)), .call (some 233) (some (232, true)) 18 [], .op (some 234) none (.pick (.t 232) (.t 233) (.c (.b false))), .op (some 4) none (.mov (.t 234))] (some [4])) .ret)))))))))))))))))))
def rs13 : List IRes := [.tmp 4]
theorem fn13 : Fn_ Tryz.prog 13 Tryz.f13 [] ic13 rs13 := ⟨by kernel_rfl, by decide, by kernel_rfl, by kernel_rfl⟩
theorem rep_lgV : ∀ {n : Nat}, rep n [.i .i64 0, .ss [] 0 true] = lgV (List.replicate n (0, [], true))
 | 0 => rfl
 | n + 1 => by
  have ih := rep_lgV (n := n)
  unfold rep at ih ⊢
  rw [List.replicate_succ, List.replicate_succ, List.flatten_cons, ih]
  rfl
theorem lgV_splice {J : List Lg} : ∀ {i : Nat} {r : Lg}, i < J.length → (lgV J).take (i * 2) ++ V.i .i64 r.1 :: V.ss (ints r.2.1) r.2.1.length r.2.2 :: (lgV J).drop (i * 2 + 2) = lgV (J.set i r) := by
 induction J with
 | nil => intro i r h; simp at h
 | cons x J ih =>
  intro i r h
  cases i with
  | zero => rfl
  | succ i =>
   have := ih (i := i) (r := r) (by simpa using h)
   rw [show (i + 1) * 2 = i * 2 + 1 + 1 by omega]
   show V.i .i64 x.1 :: sl x.2.1 x.2.2 :: ((lgV J).take (i * 2) ++ V.i .i64 r.1 :: V.ss (ints r.2.1) r.2.1.length r.2.2 :: (lgV J).drop (i * 2 + 2)) = _
   rw [this]
   rfl
theorem lists56 {v : V} {σ : List O} (hp : v.pure = true) : FSpec Tryz.prog 56 [v] σ v σ := by
 refine FSpec.frame (σ := σ) ?_ (by simp [hp]) hp
 refine fn56.spec0 mixed noIt_ok ?_
 rw [ic56]
 refine ab_seq_k fun K1 h1 => ?_
 simp
 refine h1 _ _ _ ?_
 clear h1 K1
 refine ab_seq_k fun K2 h2 => ?_
 simp
 refine h2 _ _ _ ?_
 clear h2 K2
 simp
 refine fin_of 1 ?_
 simp [-frz, rs56]
 exact frz_pure hp
theorem frz_box' {k id : Nat} {σ : List O} {v w : V} (h : σ[id]? = some (.row 0 [v])) (hw : frz (k + 1) 0 σ v = w) : frz (k + 2) 0 σ (.p id 0 0) = .sp [w] 0 := by
 rw [frz]
 simp only [V.pure, Bool.false_eq_true, if_false, Nat.not_lt_zero, h]
 simp [-frz, hw]
theorem jamNamed {J : List Lg} {f fs : Bool} {sw : List Int} {σ : List O} (hsl : (sw.length : Int) < 9223372036854775808) (hsb : ∀ x ∈ sw, 0 ≤ x ∧ x < 256) :
  FSpec Tryz.prog 13 [jamV J f, .ss (sw.map (V.i .u8)) sw.length fs] σ (.b true) σ := by
 have hswp : pureL (sw.map (V.i .u8)) = true := by
  rw [pureL_all]
  intro x hx
  obtain ⟨y, -, rfl⟩ := List.mem_map.1 hx
  rfl
 refine FSpec.frame (σ := σ) ?_ (by simp [hswp]) rfl
 refine fn13.spec0 mixed noIt_ok ?_
 rw [ic13]
 refine ab_seq_k fun K1 h1 => ?_
 simp
 refine h1 _ _ _ ?_
 clear h1 K1
 refine ab_seq_k fun K2 h2 => ?_
 refine ab_seq_k fun K3 h3 => ?_
 simp
 refine callK_of fine47 ?_
 have hK3 : ∀ env c, get env 1 = .ss (sw.map (V.i .u8)) sw.length fs → get env 2 = .p 0 0 0 → get env 34 = .b c → c = (!fineB J || decide (20 < sw.length)) → K3 (some 0) env [.row 0 [slJ J f]] := by
  intro env c w1 w2 w34 hc
  refine h3 _ _ _ ?_
  clear h3 K3
  cases c with
  | true =>
   refine ab_cond_of w34 (fun _ => ?_) (fun h => by cases h)
   refine ab_seq_k fun K4 h4 => ?_
   simp
   refine callK_of (wk _) ?_
   simp
   refine h4 _ _ _ ?_
   clear h4 K4
   simp
   exact fin_of 1 (by simp [rs13])
  | false =>
   refine ab_cond_of w34 (fun h => by cases h) (fun _ => ?_)
   have hc' := hc.symm
   rw [Bool.or_eq_false_iff, Bool.not_eq_false', decide_eq_false_iff_not] at hc'
   obtain ⟨hfi, hs20⟩ := hc'
   obtain ⟨hJO, hck, hp⟩ := fine_ok hfi
   have hN := hJO.2.1
   have hN1 := hJO.1
   have hJ0 : J ≠ [] := by rintro rfl; simp at hN1
   have hsg : ∀ {i : Nat}, i < sw.length → ∃ x : Nat, sw[i]? = some (x : Int) ∧ x < 256 := fun {i} hi => by
    have h1 := hsb _ (List.getElem_mem hi)
    exact ⟨(sw[i]).toNat, by rw [List.getElem?_eq_getElem hi]; congr 1; omega, by omega⟩
   generalize hNd : J.length = N at *
   simp [w1, w2]
   refine h2 _ _ _ ?_
   clear h2 K2
   refine ab_seq_k fun K5 h5 => ?_
   simp [w1, w2, hNd]
   refine h5 _ _ _ ?_
   clear h5 K5
   refine ab_seq_k fun K6 h6 => ?_
   simp [w1, w2]
   refine h6 _ _ _ ?_
   clear h6 K6
   refine ab_seq_k fun K7 h7 => ?_
   refine ab_seq_k fun K8 h8 => ?_
   simp [w1, w2]
   refine h8 _ _ _ ?_
   clear h8 K8
   refine ab_block_k fun K9 h9 => ?_
   refine ab_loop_k (fun m env σ => ∃ i : Nat, i + m = N ∧ ((i = 0 ∧ env = [(1, .ss (sw.map (V.i .u8)) sw.length fs), (2, .p 0 0 0), (5, .i .i64 N), (6, .ss [] 0 true), (7, .i .i64 0)] ∧ σ = [.row 0 [slJ J f]]) ∨
    (∃ ver, 1 ≤ i ∧ env = [(1, .ss (sw.map (V.i .u8)) sw.length fs), (2, .p 0 0 0), (5, .i .i64 N), (6, .s 1 ver 0 i 1), (7, .i .i64 i)] ∧ σ = [.row 0 [slJ J f], .row ver (ints (wI (List.range i)))]))) N ⟨0, by omega, .inl ⟨rfl, by simp [w1, w2], rfl⟩⟩ ?_
   clear w1 w2 w34 env
   rintro m env σ ⟨i, hi, hcase⟩ K10 h10
   rw [ic13_0]
   refine ab_seq_k fun K11 h11 => ?_
   have hnx : ints (wI (List.range i)) ++ [V.i .i64 (i : Int)] = ints (wI (List.range (i + 1))) := by rw [List.range_succ]; simp [ints, wI]
   rcases hcase with ⟨rfl, rfl, rfl⟩ | ⟨ver, hi1, rfl, rfl⟩
   ·refine ab_seq_k fun K12 h12 => ?_
    simp
    refine h12 _ _ _ ?_
    clear h12 K12
    refine ab_cond_of rfl (fun _ => ?_) (fun h => by simp at h; omega)
    simp
    refine h11 _ _ _ ?_
    refine ab_seq_k fun K13 h13 => ?_
    refine ab_block_k fun K14 h14 => ?_
    simp
    refine h14 _ _ _ (h13 _ _ _ ?_)
    simp [wrap64 (x := 1) (by omega) (by omega)]
    exact h10 _ _ _ (again (m - 1) (by omega) ⟨1, by omega, .inr ⟨0, by omega, by simp, by simp [wI, ints, List.range_succ]⟩⟩)
   refine ab_seq_k fun K12 h12 => ?_
   simp
   refine h12 _ _ _ ?_
   clear h12 K12
   refine ab_cond_of rfl (fun hci => ?_) (fun hci => ?_)
   ·have hiN : i < N := by simpa using hci
    simp
    refine h11 _ _ _ ?_
    refine ab_seq_k fun K13 h13 => ?_
    refine ab_block_k fun K14 h14 => ?_
    simp
    refine ⟨by omega, ?_⟩
    rw [hnx]
    refine h14 _ _ _ (h13 _ _ _ ?_)
    simp [wrap64 (x := (i : Int) + 1) (by omega) (by omega)]
    exact h10 _ _ _ (again (m - 1) (by omega) ⟨i + 1, by omega, .inr ⟨ver + 1, by omega, by simp, rfl⟩⟩)
   have hiN : N = i := by simp at hci; omega
   simp
   rw [← hiN]
   refine h9 _ _ _ (h7 _ _ _ ?_)
   clear h7 h9 h10 h11 hci hnx hi hi1
   clear hiN i
   refine ab_seq_k fun K15 h15 => ?_
   refine ab_seq_k fun K16 h16 => ?_
   simp
   refine h16 _ _ _ ?_
   clear h16 K16
   refine ab_block_k fun K17 h17 => ?_
   refine ab_loop_k (fun m env σ => ∃ (i : Nat) (l : List Nat), i + m = sw.length ∧ Names N l ∧ env = [(1, .ss (sw.map (V.i .u8)) sw.length fs), (2, .p 0 0 0), (5, .i .i64 N), (6, .s 1 ver 0 N 1), (8, .i .i64 i)] ∧ σ = [.row 0 [slJ J f], .row ver (ints (wI l))]) sw.length ⟨0, List.range N, by omega, .range, by simp, rfl⟩ ?_
   rintro m1 env σ ⟨i, l, hi, hnm, rfl, rfl⟩ K18 h18
   rw [ic13_1]
   refine ab_seq_k fun K19 h19 => ?_
   refine ab_seq_k fun K20 h20 => ?_
   simp
   refine h20 _ _ _ ?_
   clear h20 K20
   refine ab_cond_of rfl (fun hci => ?_) (fun hci => ?_)
   ·have hil : i < sw.length := by simpa using hci
    obtain ⟨x, hx, hx256⟩ := hsg hil
    obtain ⟨hxl, hx'⟩ := List.getElem?_eq_some_iff.1 hx
    have hc1 : i % N < N := Nat.mod_lt _ (by omega)
    have hd1 : x % N < N := Nat.mod_lt _ (by omega)
    have k1 : (i : Int).tmod N = ((i % N : Nat) : Int) := by rw [Int.tmod_eq_emod_of_nonneg (by omega), Int.natCast_emod]
    have k2 : (x : Int).tmod N = ((x % N : Nat) : Int) := by rw [Int.tmod_eq_emod_of_nonneg (by omega), Int.natCast_emod]
    have hN0 : ¬ ((N : Int) = 0) := by omega
    have hN0' : ¬ (N = 0) := by omega
    have hsw := hnm.swap hc1 hd1
    obtain ⟨g1, -⟩ := hnm.get hc1
    obtain ⟨g2, -⟩ := hnm.get hd1
    have q1 : (wI l)[i % N]? = some ((l.getD (i % N) 0 : Nat) : Int) := by simp only [wI, List.getElem?_map]; rw [g1]; rfl
    have q2 : (wI l)[x % N]? = some ((l.getD (x % N) 0 : Nat) : Int) := by simp only [wI, List.getElem?_map]; rw [g2]; rfl
    have qs : ((wI l).set (i % N) ((l.getD (x % N) 0 : Nat) : Int)).set (x % N) ((l.getD (i % N) 0 : Nat) : Int) = wI ((l.set (i % N) (l.getD (x % N) 0)).set (x % N) (l.getD (i % N) 0)) := by rw [wI_set, wI_set]
    have hwl : (wI l).length = N := by rw [wI_len]; exact hnm.len
    have kw1 := wrap64 (x := ((i % N : Nat) : Int)) (by omega) (by omega)
    have kw2 := wrap64 (x := ((x % N : Nat) : Int)) (by omega) (by omega)
    have kwx := wrap64 (x := (x : Int)) (by omega) (by omega)
    generalize (l.set (i % N) (l.getD (x % N) 0)).set (x % N) (l.getD (i % N) 0) = l2 at *
    generalize l.getD (i % N) 0 = a at *
    generalize l.getD (x % N) 0 = b at *
    generalize i % N = c at *
    generalize x % N = d at *
    generalize wI l = W at *
    obtain ⟨q1l, q1'⟩ := List.getElem?_eq_some_iff.1 q1
    obtain ⟨q2l, q2'⟩ := List.getElem?_eq_some_iff.1 q2
    simp
    refine h19 _ _ _ ?_
    clear h19 K19
    refine ab_seq_k fun K21 h21 => ?_
    refine ab_block_k fun K22 h22 => ?_
    refine ab_seq_k fun K23 h23 => ?_
    simp [abDs_consU, drU, recheck_cons, recheck_nil, rcK, IS.dst, hil, hx, hx', k1, k2, kw1, kw2, kwx, hN0, hN0']
    refine h23 _ _ _ ?_
    simp [abDs_consU, drU, recheck_cons, recheck_nil, rcK, IS.dst, q1, q1', q2, q2', hc1, hd1, hwl]
    rw [ints_set, ints_set, qs]
    refine h22 _ _ _ (h21 _ _ _ ?_)
    simp [wrap64 (x := (i : Int) + 1) (by omega) (by omega)]
    exact h18 _ _ _ (again (m1 - 1) (by omega) ⟨i + 1, l2, by omega, hsw, by simp, rfl⟩)
   simp
   refine h17 _ _ _ (h15 _ _ _ ?_)
   clear h15 h17 h18 h19 hci hi
   have hgl := fun {i : Nat} (hi : i < N) => hnm.get hi
   have hll := hnm.len
   refine ab_seq_k fun K24 h24 => ?_
   simp
   refine ⟨by omega, by omega, callK_of (jam54' rfl) ?_⟩
   simp
   refine h24 _ _ _ ?_
   clear h24 K24
   refine ab_seq_k fun K25 h25 => ?_
   refine ab_seq_k fun K26 h26 => ?_
   simp
   refine h26 _ _ _ ?_
   clear h26 K26
   refine ab_block_k fun K27 h27 => ?_
   refine ab_loop_k (fun m env σ => ∃ (i : Nat) (X : List Lg), i + m = N ∧ X.length = N ∧ (∀ k, k < i → X[l.getD k 0]? = some (entN J (wI l) k)) ∧
    ((i < N ∧ env = [(2, .p 0 0 0), (5, .i .i64 N), (6, .s 1 ver 0 N 1), (11, .p 4 0 0), (12, .i .i64 i)] ∧ σ[0]? = some (.row 0 [slJ J f]) ∧ σ[1]? = some (.row ver (ints (wI l))) ∧ σ[2]? = some (.row 0 (lgV X)) ∧ σ[4]? = some (.row 0 [.s 2 0 0 N 2])) ∨
     (i = N ∧ env = [(2, .sp [slJ J f] 0), (5, .i .i64 N), (6, sl (wI l) false), (11, .sp [slJ X false] 0), (12, .i .i64 i)] ∧ σ = []))) N ⟨0, List.replicate N (0, [], true), by omega, by simp, fun k hk => by omega, .inl ⟨by omega, by simp, rfl, rfl, by rw [← rep_lgV]; rfl, rfl⟩⟩ ?_
   rintro m env σ ⟨i, X, hi, hXl, hXe, hcase⟩ K28 h28
   rw [ic13_2]
   refine ab_seq_k fun K29 h29 => ?_
   rcases hcase with ⟨hiN, rfl, s0, s1, s2, s4⟩ | ⟨rfl, rfl, rfl⟩
   ·obtain ⟨hs0, s0'⟩ := List.getElem?_eq_some_iff.1 s0
    obtain ⟨hs1, s1'⟩ := List.getElem?_eq_some_iff.1 s1
    obtain ⟨hs2, s2'⟩ := List.getElem?_eq_some_iff.1 s2
    obtain ⟨hs4, s4'⟩ := List.getElem?_eq_some_iff.1 s4
    refine ab_seq_k fun K30 h30 => ?_
    simp
    refine h30 _ _ _ ?_
    clear h30 K30
    refine ab_cond_of rfl (fun _ => ?_) (fun h => by simp [hiN] at h)
    have hiJ : i < J.length := by omega
    obtain ⟨p, hpi, hpm, hle, g1, g2⟩ := lg_at hiJ
    obtain ⟨hg1, g1'⟩ := List.getElem?_eq_some_iff.1 g1
    obtain ⟨hg2, g2'⟩ := List.getElem?_eq_some_iff.1 g2
    have hpl := (hp p hpm).2.2
    have hpb := isLF_mem (hp p hpm).1
    obtain ⟨n1, n2⟩ := hgl hiN
    have hent : entN J (wI l) i = (p.1, renL (wI l) p.2.1, p.2.1.length == 0) := by
     unfold entN
     rw [kd_at hpi, List.getD_eq_getElem?_getD, hpi]; rfl
    have q1 : (wI l)[i]? = some ((l.getD i 0 : Nat) : Int) := by simp only [wI, List.getElem?_map]; rw [n1]; rfl
    have hX2 : ∀ k, k < i + 1 → (X.set (l.getD i 0) (entN J (wI l) i))[l.getD k 0]? = some (entN J (wI l) k) := fun k hk => by
     by_cases h : k = i
     ·subst h
      exact List.getElem?_set_self (by omega)
     ·rw [List.getElem?_set_ne (fun e => h (hnm.inj (by omega) hiN e.symm))]
      exact hXe k (by omega)
    have hX3 : (X.set (l.getD i 0) (entN J (wI l) i)).length = N := by simp [hXl]
    have hset := lgV_splice (J := X) (i := l.getD i 0) (r := entN J (wI l) i) (by omega)
    rw [hent] at hset hX2 hX3
    have q55 := fun τ (hτ : SlP τ (.s 1 ver 0 N 1) (ints (wI l))) => ren55 (A := [(p.2.1, p.2.2)]) (nm := wI l) (fA := true) (vn := .s 1 ver 0 N 1) (σ := τ) hτ (by simp) (fun q hq => by rw [List.mem_singleton] at hq; subst hq; simp; omega) (fun q hq x hx => by
     rw [List.mem_singleton] at hq
     subst hq
     have := hpb x hx
     rw [wI_len]
     omega)
    have hsl1 : ∀ τ : List O, τ[1]? = some (.row ver (ints (wI l))) → SlP τ (.s 1 ver 0 N 1) (ints (wI l)) := fun τ h => .inr ⟨1, ver, [], by simp [hll], by rw [List.append_nil]; exact h⟩
    have hwl : (wI l).length = N := by rw [wI_len, hll]
    generalize entN J (wI l) i = e at *
    generalize X.set (l.getD i 0) (p.1, renL (wI l) p.2.1, p.2.1.length == 0) = X2 at *
    generalize l.getD i 0 = a at *
    obtain ⟨q1l, q1'⟩ := List.getElem?_eq_some_iff.1 q1
    simp
    refine h29 _ _ _ ?_
    clear h29 K29
    refine ab_seq_k fun K31 h31 => ?_
    refine ab_block_k fun K32 h32 => ?_
    simp [abDs_consU, drU, recheck_cons, recheck_nil, rcK, IS.dst, s0, s0', s1, s1', s4, s4', q1, q1', hiN, hiJ, hle, g1, g1', g2, g2', hwl]
    refine callK_of (lists56 (by simp)) ?_
    simp [abDs_consU, drU, recheck_cons, recheck_nil, rcK, IS.dst]
    refine callK_of (q55 _ (hsl1 _ s1)) ?_
    have hlr : lls (renA (wI l) [(p.2.1, p.2.2)]) = [sl (renL (wI l) p.2.1) (p.2.1.length == 0)] := rfl
    rw [hlr]
    have ha2 : a * 2 + 2 ≤ N * 2 := by omega
    simp [abDs_consU, drU, recheck_cons, recheck_nil, rcK, IS.dst, s4, s4', s2, s2', n2, ha2, hXl]
    rw [hset]
    refine h32 _ _ _ (h31 _ _ _ ?_)
    simp [wrap64 (x := (i : Int) + 1) (by omega) (by omega)]
    have u0 : (σ.set 2 (O.row 0 (lgV X2)))[0]? = some (.row 0 [slJ J f]) := by rw [List.getElem?_set_ne (by omega)]; exact s0
    have u1 : (σ.set 2 (O.row 0 (lgV X2)))[1]? = some (.row ver (ints (wI l))) := by rw [List.getElem?_set_ne (by omega)]; exact s1
    have u2 : (σ.set 2 (O.row 0 (lgV X2)))[2]? = some (.row 0 (lgV X2)) := List.getElem?_set_self hs2
    have u4 : (σ.set 2 (O.row 0 (lgV X2)))[4]? = some (.row 0 [.s 2 0 0 N 2]) := by rw [List.getElem?_set_ne (by omega)]; exact s4
    generalize σ.set 2 (O.row 0 (lgV X2)) = U at *
    by_cases hend : i + 1 < N
    ·exact h28 _ _ _ (again (m - 1) (by omega) ⟨i + 1, X2, by omega, hX3, hX2, .inl ⟨hend, by simp, u0, u1, u2, u4⟩⟩)
    ·have hend2 : i + 1 = N := by omega
     have f0 : frz 5 0 U (.p 0 0 0) = .sp [slJ J f] 0 := frz_box' (k := 3) u0 (frz_pure (by simp))
     have f1 : frz 5 0 U (.s 1 ver 0 N 1) = sl (wI l) false := by
      rw [frz_row (k := 3) u1 (Nat.zero_le _) (by simp [hwl]) (by simp)]
      simp [sl, hwl]
     have f2 : frz 4 0 U (.s 2 0 0 N 2) = slJ X2 false := by
      rw [frz_row (k := 2) u2 (Nat.zero_le _) (by simp [hX3]) (by simp)]
      simp [slJ, hX3]
     have f4 : frz 5 0 U (.p 4 0 0) = .sp [slJ X2 false] 0 := frz_box' (k := 3) u4 f2
     refine h28 _ _ _ (againF (m - 1) 5 0 (by omega) (Nat.le_refl _) (Nat.zero_le _) ⟨i + 1, X2, by omega, hX3, hX2, .inr ⟨hend2, ?_, frzS_zero⟩⟩)
     simp only [frzE, List.map_cons, List.map_nil, f0, f1, f4]
     simp
   ·refine ab_seq_k fun K40 h40 => ?_
    simp
    refine h40 _ _ _ ?_
    clear h40 K40
    refine ab_cond_of rfl (fun h => by simp at h) (fun _ => ?_)
    simp
    refine h27 _ _ _ (h25 _ _ _ ?_)
    clear h25 h27 h28 h29
    obtain ⟨q, hq⟩ := hnm.nm
    subst hNd
    obtain ⟨hRn, hckX, hXb⟩ := rn_of hnm hq hN1 hN (fun x hx => ⟨(hp x hx).1, (hp x hx).2.1⟩) hXl hXe
    have hJb : ∀ x ∈ J, x.2.1.length ≤ 1000000 := fun x hx => by have := (hp x hx).2.2; omega
    have hXN : X.length ≤ 12 := by omega
    have r29 : ∀ (Q : List Lg) (fq : Bool), Q.length ≤ 12 → checkJ Q = 0 → (∀ x ∈ Q, x.2.1.length ≤ 1000000) → ∀ σ, FSpec Tryz.prog 29 [jamV Q fq] σ (.tup [sl (bl (few0 Q) 12) ((bl (few0 Q) 12).length == 0), .i .i64 0]) σ := fun Q fq h1 h2 h3 σ => by
     have := fewest29 (f := fq) (σ := σ) (by omega : Q.length ≤ 1000000) h3
     have hv : fewV Q = .tup [sl (bl (few0 Q) 12) ((bl (few0 Q) 12).length == 0), .i .i64 0] := by unfold fewV; rw [if_neg (fun h => h h2)]; rfl
     rwa [hv] at this
    have r31 : ∀ (Q : List Lg) (fq : Bool), Q.length ≤ 12 → checkJ Q = 0 → (∀ x ∈ Q, x.2.1.length ≤ 1000000) → ∀ σ, FSpec Tryz.prog 31 [jamV Q fq] σ (.tup [.ss (lls (bV (lexS (keysTo Q (2 ^ Q.length))))) (bV (lexS (keysTo Q (2 ^ Q.length)))).length ((keysTo Q (2 ^ Q.length)).length == 0), .i .i64 0]) σ := fun Q fq h1 h2 h3 σ => by
     have := keys31 (f := fq) (σ := σ) (by omega : Q.length ≤ 1000000) h3
     have hv : keysV Q = .tup [.ss (lls (bV (lexS (keysTo Q (2 ^ Q.length))))) (bV (lexS (keysTo Q (2 ^ Q.length)))).length ((keysTo Q (2 ^ Q.length)).length == 0), .i .i64 0] := by unfold keysV; rw [if_neg (fun h => h h2), lls_bV, bV_len, lexS_len]
     rwa [hv] at this
    have r36 : ∀ (Q : List Lg) (fq : Bool), Q.length ≤ 12 → checkJ Q = 0 → (∀ x ∈ Q, x.2.1.length ≤ 1000000) → ∀ σ, FSpec Tryz.prog 36 [jamV Q fq] σ (.tup [.ss (lls (bV (lexS (locksTo Q (2 ^ Q.length))))) (bV (lexS (locksTo Q (2 ^ Q.length)))).length ((locksTo Q (2 ^ Q.length)).length == 0), .i .i64 0]) σ := fun Q fq h1 h2 h3 σ => by
     have := locks36 (f := fq) (σ := σ) (by omega : Q.length ≤ 1000000) h3
     have hv : locksV Q = .tup [.ss (lls (bV (lexS (locksTo Q (2 ^ Q.length))))) (bV (lexS (locksTo Q (2 ^ Q.length)))).length ((locksTo Q (2 ^ Q.length)).length == 0), .i .i64 0] := by unfold locksV; rw [if_neg (fun h => h h2), lls_bV, bV_len, lexS_len]
     rwa [hv] at this
    have a29 := r29 J f hN hck hJb
    have b29 := r29 X false hXN hckX hXb
    have a31 := r31 J f hN hck hJb
    have b31 := r31 X false hXN hckX hXb
    have a36 := r36 J f hN hck hJb
    have b36 := r36 X false hXN hckX hXb
    have hfew : (bl (few0 J) 12).length = (bl (few0 X) 12).length := by
     have h1 := hRn.few hN
     obtain ⟨c1, -⟩ := few0_left (J := J) hN
     obtain ⟨c2, -⟩ := few0_left (J := X) hXN
     have p1 := pow12 hN
     have p2 := pow12 hXN
     rw [pc12 (by omega), pc12 (by omega)] at h1
     exact h1.symm
    have hpj := pow12 hN
    have hmem : ∀ (R : List Nat) p, p ∈ bV R → ∃ s ∈ R, p = (bl s 12, (bl s 12).length == 0) := fun R p hp => by
     obtain ⟨s, hs, rfl⟩ := List.mem_map.1 hp
     exact ⟨s, hs, rfl⟩
    have hbm : ∀ (R : List Nat) s, s ∈ R → (bl s 12, (bl s 12).length == 0) ∈ bV R := fun R s hs => List.mem_map.2 ⟨s, hs, rfl⟩
    have hgen : ∀ (A B : List Nat), (A.map fun s => setN (fun i => l.getD i 0) s J.length).Perm B → (∀ s ∈ A, s < 2 ^ J.length) → A.length ≤ 4096 →
      (bV (lexS B)).length = (bV (lexS A)).length ∧ (bV (lexS A)).length ≤ 4096 ∧ (∀ p ∈ bV (lexS A), p.1.length ≤ 12 ∧ isL J.length p.1 = true ∧ ∀ x ∈ p.1, 0 ≤ x ∧ x < (wI l).length) ∧ (∀ p ∈ renA (wI l) (bV (lexS A)), p.1.length ≤ 12 ∧ ∃ r ∈ bV (lexS B), p.1 = r.1) := fun A B hAB hA hAl => by
     refine ⟨?_, ?_, fun p hp => ?_, fun p hp => ?_⟩
     ·rw [bV_len, bV_len, lexS_len, lexS_len, ← hAB.length_eq, List.length_map]
     ·rw [bV_len, lexS_len]; exact hAl
     ·obtain ⟨s, hs, rfl⟩ := hmem _ p hp
      have hsl := hA s (lexS_perm.mem_iff.1 hs)
      have hL : isL J.length (bl s 12) = true := isL_bl hsl
      refine ⟨bl_len, hL, fun x hx => ?_⟩
      have := isLF_mem hL x hx
      rw [wI_len, hll]
      exact this
     ·obtain ⟨p0, hp0, rfl⟩ := List.mem_map.1 hp
      obtain ⟨s, hs, rfl⟩ := hmem _ p0 hp0
      have hsA := lexS_perm.mem_iff.1 hs
      have e := renL_bl hnm hq hN (hA s hsA)
      refine ⟨?_, _, hbm _ (setN (fun i => l.getD i 0) s J.length) (lexS_perm.mem_iff.2 (hAB.mem_iff.1 (List.mem_map.2 ⟨s, hsA, rfl⟩))), e⟩
      show (renL (wI l) (bl s 12)).length ≤ 12
      rw [e]
      exact bl_len
    have hkl := keysTo_len (J := J) (i := 2 ^ J.length)
    have hol := locksTo_len (J := J) (i := 2 ^ J.length)
    obtain ⟨k1, k2, k3, k4⟩ := hgen _ _ (hRn.keys hN) (fun s hs => List.mem_range.1 (List.mem_filter.1 hs).1) (by omega)
    obtain ⟨o1, o2, o3, o4⟩ := hgen _ _ (hRn.locks hN) (fun s hs => List.mem_range.1 (List.mem_filter.1 hs).1) (by omega)
    clear hgen r29 r31 r36 hkl hol hmem hbm
    generalize ((keysTo J (2 ^ J.length)).length == 0) = fk at *
    generalize ((keysTo X (2 ^ X.length)).length == 0) = fkX at *
    generalize ((locksTo J (2 ^ J.length)).length == 0) = fo at *
    generalize ((locksTo X (2 ^ X.length)).length == 0) = foX at *
    generalize bV (lexS (keysTo J (2 ^ J.length))) = A at *
    generalize bV (lexS (keysTo X (2 ^ X.length))) = AX at *
    generalize bV (lexS (locksTo J (2 ^ J.length))) = B at *
    generalize bV (lexS (locksTo X (2 ^ X.length))) = BX at *
    generalize bl (few0 J) 12 = F at *
    generalize bl (few0 X) 12 = FX at *
    refine ab_seq_k fun K41 h41 => ?_
    simp
    refine callK_of (a31 _) ?_
    simp
    refine h41 _ _ _ ?_
    clear h41 K41
    refine ab_seq_k fun K42 h42 => ?_
    simp
    refine callK_of (b31 _) ?_
    simp
    refine h42 _ _ _ ?_
    clear h42 K42
    refine ab_seq_k fun K43 h43 => ?_
    simp
    refine callK_of (a36 _) ?_
    simp
    refine h43 _ _ _ ?_
    clear h43 K43
    refine ab_seq_k fun K44 h44 => ?_
    simp
    refine callK_of (b36 _) ?_
    simp
    refine h44 _ _ _ ?_
    clear h44 K44
    refine ab_seq_k fun K45 h45 => ?_
    simp
    refine callK_of (a29 _) ?_
    simp
    refine h45 _ _ _ ?_
    clear h45 K45
    refine ab_seq_k fun K46 h46 => ?_
    simp
    refine callK_of (b29 _) ?_
    simp
    refine h46 _ _ _ ?_
    clear h46 K46
    refine ab_seq_k fun K47 h47 => ?_
    refine ab_seq_k fun K48 h48 => ?_
    simp [k1, o1, hfew]
    refine h48 _ _ _ ?_
    clear h48 K48
    refine ab_cond_of rfl (fun h => by simp at h) (fun _ => ?_)
    simp
    refine h47 _ _ _ ?_
    clear h47 K47
    refine ab_seq_k fun K50 h50 => ?_
    refine ab_seq_k fun K51 h51 => ?_
    have hK51 : ∀ env c, get env 5 = .i .i64 J.length → get env 6 = sl (wI l) false → get env 13 = .ss (lls A) A.length fk → get env 15 = .ss (lls AX) A.length fkX → get env 17 = .ss (lls B) B.length fo → get env 19 = .ss (lls BX) B.length foX → get env 192 = .b c → K51 (some 0) env [] := by
     intro env c w5 w6 w13 w15 w17 w19 w192
     refine h51 _ _ _ ?_
     clear h51 K51
     cases c with
     | true =>
      refine ab_cond_of w192 (fun _ => ?_) (fun h => by cases h)
      refine ab_seq_k fun K52 h52 => ?_
      simp
      refine callK_of (wk _) ?_
      simp
      refine h52 _ _ _ ?_
      clear h52 K52
      simp
      exact fin_of 1 (by simp [rs13])
     | false =>
      refine ab_cond_of w192 (fun h => by cases h) (fun _ => ?_)
      simp [w5, w6, w13, w15, w17, w19]
      refine h50 _ _ _ ?_
      clear h50 K50
      refine ab_seq_k fun K53 h53 => ?_
      refine ab_seq_k fun K54 h54 => ?_
      simp [w5, w6, w13, w15, w17, w19]
      refine h54 _ _ _ ?_
      clear h54 K54
      refine ab_block_k fun K55 h55 => ?_
      refine ab_loop_k (fun m env σ => ∃ i : Nat, i + m = A.length ∧ env = [(5, .i .i64 J.length), (6, sl (wI l) false), (13, .ss (lls A) A.length fk), (15, .ss (lls AX) A.length fkX), (17, .ss (lls B) B.length fo), (19, .ss (lls BX) B.length foX), (25, .i .i64 i)] ∧ σ = []) A.length ⟨0, by omega, by simp [w5, w6, w13, w15, w17, w19], rfl⟩ ?_
      clear w5 w6 w13 w15 w17 w19 w192 env
      rintro m env σ ⟨i, hi, rfl, rfl⟩ K56 h56
      rw [ic13_3]
      refine ab_seq_k fun K57 h57 => ?_
      refine ab_seq_k fun K58 h58 => ?_
      simp
      refine h58 _ _ _ ?_
      clear h58 K58
      refine ab_cond_of rfl (fun hc1 => ?_) (fun hc1 => ?_)
      ·have hil : i < A.length := by simp at hc1; omega
       have hpg : A[i]? = some A[i] := List.getElem?_eq_getElem hil
       obtain ⟨m1, m2, -⟩ := k3 _ (List.getElem_mem hil)
       generalize A[i] = p at *
       have hlp := lls_get hpg
       obtain ⟨g1, g2⟩ := List.getElem?_eq_some_iff.1 hlp
       have q57 := fun σ => refIsList57 (l := p.1) (f := p.2) (N := (J.length : Int)) (σ := σ) (by omega) (by omega)
       rw [m2] at q57
       simp
       refine h57 _ _ _ ?_
       clear h57 K57
       refine ab_seq_k fun K59 h59 => ?_
       refine ab_block_k fun K60 h60 => ?_
       refine ab_seq_k fun K61 h61 => ?_
       simp [hil, hlp, g1, g2]
       refine callK_of (q57 _) ?_
       simp
       refine h61 _ _ _ ?_
       refine ab_cond_of rfl (fun h => by cases h) (fun _ => ?_)
       simp
       refine h60 _ _ _ (h59 _ _ _ ?_)
       simp [wrap64 (x := (i : Int) + 1) (by omega) (by omega)]
       exact h56 _ _ _ (again (m - 1) (by omega) ⟨i + 1, by omega, by simp, rfl⟩)
      ·simp
       refine h55 _ _ _ (h53 _ _ _ ?_)
       clear h53 h55 h56 h57
       refine ab_seq_k fun K63 h63 => ?_
       refine ab_seq_k fun K64 h64 => ?_
       simp
       refine h64 _ _ _ ?_
       clear h64 K64
       refine ab_block_k fun K65 h65 => ?_
       refine ab_loop_k (fun m env σ => ∃ i : Nat, i + m = B.length ∧ env = [(5, .i .i64 J.length), (6, sl (wI l) false), (13, .ss (lls A) A.length fk), (15, .ss (lls AX) A.length fkX), (17, .ss (lls B) B.length fo), (19, .ss (lls BX) B.length foX), (26, .i .i64 i)] ∧ σ = []) B.length ⟨0, by omega, by simp, rfl⟩ ?_
       rintro m env σ ⟨i, hi, rfl, rfl⟩ K66 h66
       rw [ic13_4]
       refine ab_seq_k fun K67 h67 => ?_
       refine ab_seq_k fun K68 h68 => ?_
       simp
       refine h68 _ _ _ ?_
       clear h68 K68
       refine ab_cond_of rfl (fun hc1 => ?_) (fun hc1 => ?_)
       ·have hil : i < B.length := by simp at hc1; omega
        have hpg : B[i]? = some B[i] := List.getElem?_eq_getElem hil
        obtain ⟨m1, m2, -⟩ := o3 _ (List.getElem_mem hil)
        generalize B[i] = p at *
        have hlp := lls_get hpg
        obtain ⟨g1, g2⟩ := List.getElem?_eq_some_iff.1 hlp
        have q57 := fun σ => refIsList57 (l := p.1) (f := p.2) (N := (J.length : Int)) (σ := σ) (by omega) (by omega)
        rw [m2] at q57
        simp
        refine h67 _ _ _ ?_
        clear h67 K67
        refine ab_seq_k fun K69 h69 => ?_
        refine ab_block_k fun K70 h70 => ?_
        refine ab_seq_k fun K71 h71 => ?_
        simp [hil, hlp, g1, g2]
        refine callK_of (q57 _) ?_
        simp
        refine h71 _ _ _ ?_
        refine ab_cond_of rfl (fun h => by cases h) (fun _ => ?_)
        simp
        refine h70 _ _ _ (h69 _ _ _ ?_)
        simp [wrap64 (x := (i : Int) + 1) (by omega) (by omega)]
        exact h66 _ _ _ (again (m - 1) (by omega) ⟨i + 1, by omega, by simp, rfl⟩)
       ·simp
        refine h65 _ _ _ (h63 _ _ _ ?_)
        clear h63 h65 h66 h67
        have hsw : ∀ σ : List O, SlP σ (sl (wI l) false) (ints (wI l)) := fun σ => .inl ⟨false, by simp [sl]⟩
        have p55 := fun σ => ren55 (A := A) (nm := wI l) (fA := fk) (σ := σ) (hsw σ) (by omega) (fun p hp => by have := (k3 p hp).1; omega) (fun p hp => (k3 p hp).2.2)
        have r55 := fun σ => ren55 (A := B) (nm := wI l) (fA := fo) (σ := σ) (hsw σ) (by omega) (fun p hp => by have := (o3 p hp).1; omega) (fun p hp => (o3 p hp).2.2)
        have p58 := fun fA σ => among58 (A := renA (wI l) A) (B := AX) (fA := fA) (fB := fkX) (σ := σ) (by rw [renA_len]; omega) (by rw [renA_len]; exact k1) (fun p hp => by have := (k4 p hp).1; omega) (fun p hp => (k4 p hp).2)
        have r58 := fun fA σ => among58 (A := renA (wI l) B) (B := BX) (fA := fA) (fB := foX) (σ := σ) (by rw [renA_len]; omega) (by rw [renA_len]; exact o1) (fun p hp => by have := (o4 p hp).1; omega) (fun p hp => (o4 p hp).2)
        rw [renA_len, k1] at p58
        rw [renA_len, o1] at r58
        refine ab_seq_k fun K73 h73 => ?_
        simp
        refine callK_of (p55 _) ?_
        simp
        refine callK_of (p58 _ _) ?_
        simp
        refine callK_of (r55 _) ?_
        simp
        refine callK_of (r58 _ _) ?_
        simp
        refine callK_of (wk _) ?_
        simp
        refine h73 _ _ _ ?_
        simp
        exact fin_of 1 (by simp [rs13])
    clear h50 h51
    by_cases hA40 : (40 : Int) < A.length
    ·simp [hA40]
     exact hK51 _ true rfl rfl rfl rfl rfl rfl rfl
    ·simp [hA40]
     exact hK51 _ _ rfl rfl rfl rfl rfl rfl rfl
 clear h2 h3
 cases hg : fineB J with
 | false =>
  simp
  exact hK3 _ true rfl rfl rfl (by simp [hg])
 | true =>
  by_cases h20 : (20 : Int) < sw.length
  ·have h20' : 20 < sw.length := by omega
   simp [h20]
   exact hK3 _ true rfl rfl rfl (by simp [h20'])
  ·have h20' : ¬ 20 < sw.length := by omega
   simp [h20]
   exact hK3 _ false rfl rfl rfl (by simp [hg, h20'])
end Go.Ab
end
