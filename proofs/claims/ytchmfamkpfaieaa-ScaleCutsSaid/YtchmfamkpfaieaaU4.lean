/- newYard: the walk. -/
import Derived.Test.YtchmfamkpfaieaaU3
set_option linter.unusedVariables false
set_option linter.unusedSimpArgs false
set_option maxHeartbeats 4000000
namespace Go.Ab
open Go Go.Proofs

structure RuB (r : Ru) : Prop where
  l1 : 1 ≤ r.least
  l2 : r.least ≤ r.most
  m : r.most ≤ 60
  s1 : 1 ≤ r.step
  s2 : r.step ≤ 10
  t1 : 0 ≤ r.trim
  t2 : r.trim ≤ 5
  o1 : 0 ≤ r.off
  o2 : r.off ≤ 20
  d1 : 1 ≤ r.div
  d2 : r.div ≤ 100
  h1 : 0 ≤ r.thin
  h2 : r.thin ≤ 60

theorem Ru.bounds {r : Ru} (h : r.ok = true) : RuB r := by
  simp only [Ru.ok, fit, Bool.and_eq_true, decide_eq_true_eq] at h
  exact ⟨by omega, by omega, by omega, by omega, by omega, by omega, by omega, by omega, by omega, by omega, by omega, by omega, by omega⟩

def mapE (l : Kn) : O := .map ((tE 0 l).map encE) l.length
@[simp] theorem mapE_ver {l : Kn} : (mapE l).ver = 0 := rfl
@[simp] theorem get_del_ne {env : Env} {s t : Nat} (h : s ≠ t) : get (del env s) t = get env t := by rw [get_del, if_neg h]
def heapE (t b : List Int) (ft fb : Bool) (r : Ru) (o : O) (g : List O) : List O :=
  .row 0 [sl t ft, sl b fb] :: .row 0 r.cells :: o :: .row 0 [sl t ft, sl b fb, .m 2] :: g

def inv77_1 (t b : List Int) (ft fb : Bool) (r : Ru) (m : Nat) (env : Env) (σ : List O) : Prop :=
  ∃ i : Nat, i + m = t.length - 1 ∧ env = [(2, .p 0 0 0), (3, .p 1 0 0), (5, .p 3 0 0), (17, .i .i64 ((t.length : Int) - 1)), (18, .i .i64 i)] ∧
    σ = heapE t b ft fb r (mapE (allK t r i)) []

def inv77_0 (t b : List Int) (ft fb : Bool) (r : Ru) (i : Nat) (m : Nat) (env : Env) (σ : List O) : Prop :=
  ∃ j : Nat, j + m = cntK r ∧ env = [(2, .p 0 0 0), (3, .p 1 0 0), (5, .p 3 0 0), (6, .i .i64 i), (7, .i .i64 (r.least + j)), (17, .i .i64 ((t.length : Int) - 1)), (18, .i .i64 i)] ∧
    σ = heapE t b ft fb r (mapE (allK t r i ++ rowK t r i j)) []

def inv77_2 (t b : List Int) (ft fb : Bool) (r : Ru) (E : Kn) (m : Nat) (env : Env) (σ : List O) : Prop :=
  ∃ seen : List Nat, ((tE 0 E).filter fun p => decide (p.1 ∉ seen)).length = m ∧ env = [(2, .p 0 0 0), (3, .p 1 0 0), (5, .p 3 0 0), (75, .p 4 0 0)] ∧
    σ = heapE t b ft fb r (.map (((tE 0 E).filter fun p => !(decide (p.1 ∈ seen) && badK t b r p.2)).map encE) E.length) [.it 2 E.length seen E.length]

theorem longY {t b : List Int} {ft fb : Bool} {r : Ru} {o : O} {g : List O} (h61 : t.length ≤ 61) :
    FSpec Try.prog 66 [.p 3 0 0] (heapE t b ft fb r o g) (.i .i64 ((t.length : Int) - 1)) (heapE t b ft fb r o g) := by
  refine FSpec.frozen 3 (v := .i .i64 ((t.length : Int) - 1)) ?_ rfl
  simp [heapE]
  exact long_ok (t := ints t) (n := t.length) (full := ft) (by simp) (by omega)

theorem mset_new {l : Kn} {x y v : Int} {σ : List O} {id : Nat} {C : Ct} (h : σ[id]? = some (mapE l)) (hn : ∀ e ∈ l, e.1 ≠ (x, y)) (hC : C .u (σ.set id (mapE (l ++ [((x, y), v)])))) :
    msetK .i64 2 (.m id) (.agg [.i .i64 x, .i .i64 y]) (.i .i64 v) σ C := by
  have hk : keyOf .i64 2 (.agg [.i .i64 x, .i .i64 y]) = some [x, y] := key_spot (k := (x, y))
  have hi := idxM_ents (l := tE 0 l) (k := (x, y))
  have hnone : (tE 0 l).findIdx? (fun p => p.2.1 == (x, y)) = none := by
    rw [List.findIdx?_eq_none_iff]
    intro p hp
    have := hn p.2 (tE_lt hp).2.2
    simpa using this
  rw [hnone] at hi
  simp only at hi
  simp only [msetK, hk, h, mapE, hi]
  refine ⟨keysOK_ents, ?_⟩
  have e : (tE 0 l).map encE ++ [(l.length, V.agg [.i .i64 x, .i .i64 y], V.i .i64 v)] = (tE 0 (l ++ [((x, y), v)])).map encE := by
    rw [tE_append, List.map_append]
    simp [tE, encE, spotV]
  rw [e]
  simpa [mapE] using hC

theorem rng_K {σ : List O} {id c : Nat} {es : List (Nat × V × V)} {C : Ct} (h : σ[id]? = some (.map es c)) (hC : C (.p σ.length 0 0) (σ ++ [.it id c [] c])) : rngK (.m id) σ C := by
  simp only [rngK, h]; exact hC

theorem nxt_K {σ : List O} {id mid since : Nat} {seen : List Nat} {es : List (Nat × V × V)} {C : Ct} (h1 : σ[id]? = some (.it mid since seen since)) (h2 : σ[mid]? = some (.map es since)) (hb : ∀ e ∈ es, e.1 < since)
    (hend : (∀ e ∈ es, e.1 ∈ seen) → C (.tup [.b false]) σ) (hgo : ∀ e ∈ es, e.1 ∉ seen → C (.tup [.b true, e.2.1, e.2.2]) (σ.set id (.it mid since (seen ++ [e.1]) since))) : nxtK (.p id 0 0) σ C := by
  simp only [nxtK, h1, h2]
  exact ⟨trivial, trivial, trivial, trivial, hb, hend, hgo⟩

theorem ent_K {σ : List O} {id mid since stepped b : Nat} {seen : List Nat} {es : List (Nat × V × V)} {C : Ct} {e : Nat × V × V} (h1 : σ[id]? = some (.it mid since (seen ++ [b]) stepped)) (h2 : σ[mid]? = some (.map es stepped))
    (hf : es.find? (fun e => e.1 == b) = some e) (hC : C (.tup [e.2.1, e.2.2]) σ) : entC (.p id 0 0) σ C := by
  simp only [entC, entK, h1, h2, List.getLast?_append, List.getLast?_singleton, Option.some_or, hf]
  exact ⟨trivial, trivial, trivial, hC⟩

theorem mdel_E {σ : List O} {id c : Nat} {l : TE} {x y : Int} {C : Ct} (h : σ[id]? = some (.map (l.map encE) c)) (hn : (l.map (·.2.1)).Nodup) (hm : (x, y) ∈ l.map (·.2.1))
    (hC : C .u (σ.set id (.map ((l.filter fun p => !decide (p.2.1 = (x, y))).map encE) c))) : mdelK .i64 2 (.m id) (.agg [.i .i64 x, .i .i64 y]) σ C := by
  have hk : keyOf .i64 2 (.agg [.i .i64 x, .i .i64 y]) = some [x, y] := key_spot (k := (x, y))
  have hi := idxM_ents (l := l) (k := (x, y))
  simp only at hi
  simp only [mdelK, hk, h, hi]
  refine ⟨keysOK_ents, ?_⟩
  cases hf : l.findIdx? (fun p => p.2.1 == (x, y)) with
  | none =>
    rw [List.findIdx?_eq_none_iff] at hf
    obtain ⟨p, hp, hE⟩ := List.mem_map.1 hm
    have := hf p hp
    simp [hE] at this
  | some i =>
    simp only
    have h1 := erase_of hf
    have h2 : l.eraseP (fun p => p.2.1 == (x, y)) = l.filter fun p => !decide (p.2.1 = (x, y)) := by
      have := eraseP_unique (f := fun p : Nat × ((Int × Int) × Int) => p.2.1) (k := (x, y)) hn
      rw [← this]
      congr 1
      funext p
      rw [Bool.eq_iff_iff]
      simp
    rw [← h2, ← h1] at hC
    have h3 : (l.map encE).eraseIdx i = (l.eraseIdx i).map encE := by simp [List.eraseIdx_eq_take_drop_succ, List.map_take, List.map_drop]
    rw [h3]
    exact hC

theorem nodup_inj {α β : Type} {f : α → β} : ∀ {l : List α}, (l.map f).Nodup → ∀ {a b : α}, a ∈ l → b ∈ l → f a = f b → a = b
  | [], _, _, _, h, _, _ => by cases h
  | x :: l, hn, a, b, ha, hb, h => by
    simp only [List.map_cons, List.nodup_cons] at hn
    rcases List.mem_cons.1 ha with h1 | h1 <;> rcases List.mem_cons.1 hb with h2 | h2
    · rw [h1, h2]
    · exact absurd (by rw [← h1, h]; exact List.mem_map_of_mem h2) hn.1
    · exact absurd (by rw [← h2, ← h]; exact List.mem_map_of_mem h1) hn.1
    · exact nodup_inj hn.2 h1 h2 h

@[simp high] theorem frzO_ents {k n c : Nat} {σ : List O} {l : TE} : frzO (k + 1) n σ (.map (l.map encE) c) = .map (l.map encE) c := by
  have h : ((l.map encE).map fun e => (e.1, frz (k + 1) n σ e.2.1, frz (k + 1) n σ e.2.2)) = l.map encE := by
    rw [List.map_map]
    refine List.map_congr_left (fun p _ => ?_)
    simp [encE, spotV]
  show O.map _ c = _
  rw [h]

theorem frzS_heapE {t b : List Int} {ft fb : Bool} {r : Ru} {es : TE} {c : Nat} {seen : List Nat} {g : O} :
    frzS 2 5 (heapE t b ft fb r (.map (es.map encE) c) [.it 2 c seen c, g]) = heapE t b ft fb r (.map (es.map encE) c) [.it 2 c seen c] := by
  have e : ∀ σ, frzO 2 5 σ (.map (es.map encE) c) = .map (es.map encE) c := fun σ => frzO_ents (k := 1)
  show [frzO 2 5 _ _, frzO 2 5 _ _, frzO 2 5 _ _, frzO 2 5 _ _, frzO 2 5 _ _] = _
  rw [e]
  simp [heapE, Ru.cells]

theorem get_frz {k n : Nat} {σ : List O} {t : Nat} : ∀ {env : Env}, get (frzE k n σ env) t = frz k n σ (get env t)
  | [] => by cases k <;> rfl
  | (s, v) :: r => by
    show get ((s, frz k n σ v) :: frzE k n σ r) t = _
    simp only [get]
    split
    · rfl
    · exact get_frz
theorem get_frz_p {k n : Nat} {σ : List O} {t id ver off : Nat} {env : Env} (h : get env t = .p id ver off) (hl : id < n) : get (frzE (k + 1) n σ env) t = .p id ver off := by
  rw [get_frz, h]
  simp [hl]

theorem frz_map {k n id c : Nat} {σ : List O} {es : TE} (h : σ[id]? = some (.map (es.map encE) c)) (hn : n ≤ id) : frz (k + 2) n σ (.m id) = .sm (es.map fun p => (spotV p.2.1, V.i .i64 p.2.2)) := by
  rw [frz]
  simp only [V.pure, Bool.false_eq_true, if_false, Nat.not_lt.2 hn, h]
  congr 1
  rw [List.map_map]
  refine List.map_congr_left (fun p _ => ?_)
  simp [encE, spotV]
theorem frz_yard {t b : List Int} {ft fb : Bool} {r : Ru} {es : TE} {c : Nat} {g : List O} :
    frz 4 0 (heapE t b ft fb r (.map (es.map encE) c) g) (.p 3 0 0) = .sp [sl t ft, sl b fb, .sm (es.map fun p => (spotV p.2.1, V.i .i64 p.2.2))] 0 := by
  show V.sp ([sl t ft, sl b fb, .m 2].map (frz 3 0 (heapE t b ft fb r (.map (es.map encE) c) g))) 0 = _
  simp only [List.map_cons, List.map_nil]
  rw [frz_pure (by simp), frz_pure (by simp), frz_map (es := es) (c := c) rfl (Nat.zero_le _)]

theorem hasBad_bound {b : List Int} : True := trivial

theorem over_bound {x off lo d : Int} (h1 : 0 ≤ x) (h2 : x ≤ 60) (o1 : 0 ≤ off) (l1 : 0 ≤ lo) (l2 : lo ≤ 60) :
    0 ≤ max 0 (x - off) * max 0 (x - off) ∧ max 0 (x - off) * max 0 (x - off) ≤ 3600 ∧ 0 ≤ max 0 (x - off) * max 0 (x - off) * lo ∧ max 0 (x - off) * max 0 (x - off) * lo ≤ 216000 := by
  have a1 : 0 ≤ max 0 (x - off) := by omega
  have a2 : max 0 (x - off) ≤ 60 := by omega
  generalize max 0 (x - off) = y at *
  have b1 : 0 ≤ y * y := Int.mul_nonneg a1 a1
  have b2 : y * y ≤ 60 * 60 := Int.mul_le_mul a2 a2 a1 (by omega)
  generalize y * y = z at *
  have c1 : 0 ≤ z * lo := Int.mul_nonneg b1 l1
  have c2 : z * lo ≤ (60 * 60) * 60 := Int.mul_le_mul b2 l2 l1 (by omega)
  exact ⟨b1, by omega, c1, by omega⟩

theorem newYard_ok {t b : List Int} {ft fb : Bool} {r : Ru} (h2 : 2 ≤ t.length) (h61 : t.length ≤ 61) (hv : ∀ x ∈ t, 0 ≤ x ∧ x ≤ 60) (hb : (b.length : Int) < 1000000000) (hr : RuB r) :
    FSpec Try.prog 77 [.agg [sl t ft, sl b fb], .agg r.cells] [] (yardV t ft b fb (knownK t b r)) [] := by
  obtain ⟨l1, l2, m1, s1, s2, t1, t2, o1, o2, d1, d2, th1, th2⟩ := hr
  refine fn77.spec0 mixed noIt_ok ?_
  rw [ic77]
  refine ab_seq_k fun K1 h1 => ?_
  simp [Ru.cells]
  refine h1 _ _ _ ?_
  clear h1 K1
  refine ab_seq_k fun K2 h2 => ?_
  simp
  refine h2 _ _ _ ?_
  clear h2 K2
  refine ab_seq_k fun K3 h3 => ?_
  refine ab_seq_k fun K4 h4 => ?_
  simp
  refine callK_of (longY (r := r) (g := []) h61) ?_
  simp
  refine h4 _ _ _ ?_
  clear h4 K4
  refine ab_block_k fun K5 h5 => ?_
  refine ab_loop_k (inv77_1 t b ft fb r) (t.length - 1) ⟨0, by omega, by simp, by simp [allK, tE, heapE, mapE, Ru.cells]⟩ ?_
  rintro m env σ ⟨i, hi, rfl, rfl⟩ K6 h6
  rw [ic77_1]
  refine ab_seq_k fun K7 h7 => ?_
  simp
  refine h7 _ _ _ ?_
  clear h7 K7
  refine ab_seq_k fun K8 h8 => ?_
  refine ab_cond_of rfl (fun hc => ?_) (fun hc => ?_)
  · have hin : i + 1 ≤ t.length - 1 := by simp at hc; omega
    simp
    refine h8 _ _ _ ?_
    clear h8 K8 h5 h3
    refine ab_seq_k fun K9 h9 => ?_
    refine ab_block_k fun K10 h10 => ?_
    refine ab_seq_k fun K11 h11 => ?_
    simp
    refine h11 _ _ _ ?_
    clear h11 K11
    refine ab_seq_k fun K12 h12 => ?_
    simp [heapE, Ru.cells]
    refine h12 _ _ _ ?_
    clear h12 K12
    refine ab_block_k fun K13 h13 => ?_
    refine ab_loop_k (inv77_0 t b ft fb r i) (cntK r) ⟨0, by omega, by simp, by simp [rowK, heapE, Ru.cells]⟩ ?_
    rintro m' env σ ⟨j, hj, rfl, rfl⟩ K14 h14
    rw [ic77_0]
    refine ab_seq_k fun K15 h15 => ?_
    refine ab_seq_k fun K16 h16 => ?_
    simp [heapE, Ru.cells]
    refine h16 _ _ _ ?_
    clear h16 K16
    have hcnt : (cntK r : Int) = r.most + 1 - r.least := by unfold cntK; omega
    refine ab_cond_of rfl (fun hc => ?_) (fun hc => ?_)
    · have hjn : j + 1 ≤ cntK r := by simp at hc; omega
      simp
      refine h15 _ _ _ ?_
      clear h15 K15
      refine ab_seq_k fun K17 h17 => ?_
      have next : ∀ {env σ}, keep env [2, 3, 5, 6, 7, 17, 18] = [(2, .p 0 0 0), (3, .p 1 0 0), (5, .p 3 0 0), (6, .i .i64 i), (7, .i .i64 (r.least + j)), (17, .i .i64 ((t.length : Int) - 1)), (18, .i .i64 i)] →
          σ = heapE t b ft fb r (mapE (allK t r i ++ rowK t r i (j + 1))) [] → K17 (some 0) env σ := by
        rintro env σ he rfl
        simp at he
        obtain ⟨e1, e2, e3, e4, e5, e6, e7⟩ := he
        refine h17 _ _ _ ?_
        simp [e5, wrap64 (x := r.least + (j : Int) + 1) (by omega) (by omega)]
        exact h14 _ _ _ (again (m' - 1) (by omega) ⟨j + 1, by omega, by simp [e1, e2, e3, e4, e6, e7]; omega, rfl⟩)
      clear h17
      refine ab_block_k fun K18 h18 => ?_
      refine ab_seq_k fun K19 h19 => ?_
      simp [wrap64 (x := (i : Int) + (r.least + j)) (by omega) (by omega), wrap64 (x := (i : Int) + (r.least + j) + r.trim) (by omega) (by omega)]
      refine h19 _ _ _ ?_
      clear h19 K19
      refine ab_seq_k fun K20 h20 => ?_
      simp
      refine callK_of (longY (r := r) (g := []) h61) ?_
      have no : ent1 t r i (r.least + j) = [] → K20 (some 0) [(2, .p 0 0 0), (3, .p 1 0 0), (5, .p 3 0 0), (6, .i .i64 i), (7, .i .i64 (r.least + j)), (8, .i .i64 ((i : Int) + (r.least + j) + r.trim)), (17, .i .i64 ((t.length : Int) - 1)), (18, .i .i64 i), (45, .b false)] (heapE t b ft fb r (mapE (allK t r i ++ rowK t r i j)) []) := by
        intro he
        refine h20 _ _ _ ?_
        refine ab_cond_of rfl (fun h => by cases h) (fun _ => ?_)
        simp
        refine h18 _ _ _ (next (by simp) ?_)
        rw [rowK_succ, he, List.append_nil]
      by_cases hle : (i : Int) + (r.least + j) + r.trim ≤ (t.length : Int) - 1
      · simp [hle, heapE, Ru.cells]
        rw [Int.tmod_eq_emod_of_nonneg (by omega)]
        by_cases hs : (r.least + j) % r.step = 0
        · simp [hs]
          refine ⟨by omega, h20 _ _ _ ?_⟩
          clear no h20 K20
          refine ab_cond_of rfl (fun _ => ?_) (fun h => by cases h)
          refine ab_seq_k fun K21 h21 => ?_
          generalize hto : (i : Int) + (r.least + j) + r.trim = to at *
          have hto0 : 0 ≤ to := by omega
          have htol : to < t.length := by omega
          have g1 : t[to.toNat]? = some (t.getD to.toNat 0) := by rw [List.getD_eq_getElem?_getD, List.getElem?_eq_getElem (by omega)]; rfl
          have hx := hv _ (List.mem_of_getElem? g1)
          have hent : ent1 t r i (r.least + j) = [((↑i, to), scaleN t r to (r.least + j))] := by simp only [ent1, hto]; rw [if_pos ⟨by omega, hs⟩]
          have hsc : scaleN t r to (r.least + j) = max 0 (t.getD to.toNat 0 - r.off) * max 0 (t.getD to.toNat 0 - r.off) * (r.least + j) / r.div := rfl
          generalize t.getD to.toNat 0 = x at *
          have k1 : t[to.toNat]'(by omega) = x := by rw [List.getElem?_eq_getElem (by omega)] at g1; exact Option.some.inj g1
          obtain ⟨b1, b2, b3, b4⟩ := over_bound (lo := r.least + j) (d := 0) hx.1 hx.2 o1 (by omega) (by omega)
          simp [htol, hto0, g1, k1, wrap64 (x := x - r.off) (by omega) (by omega)]
          refine h21 _ _ _ ?_
          clear h21 K21
          simp [wrap64 (x := max 0 (x - r.off) * max 0 (x - r.off)) (by omega) (by omega), wrap64 (x := max 0 (x - r.off) * max 0 (x - r.off) * (r.least + j)) (by omega) (by omega)]
          have c1 : 0 ≤ max 0 (x - r.off) * max 0 (x - r.off) * (r.least + ↑j) / r.div := Int.ediv_nonneg b3 (by omega)
          have c2 : max 0 (x - r.off) * max 0 (x - r.off) * (r.least + ↑j) / r.div ≤ max 0 (x - r.off) * max 0 (x - r.off) * (r.least + ↑j) := Int.ediv_le_self _ b3
          rw [Int.tdiv_eq_ediv_of_nonneg b3]
          simp [wrap64 (x := max 0 (x - r.off) * max 0 (x - r.off) * (r.least + ↑j) / r.div) (by omega) (by omega)]
          refine ⟨by omega, mset_new (l := allK t r i ++ rowK t r i j) rfl ?_ ?_⟩
          · intro e he hE
            rcases List.mem_append.1 he with he | he
            · have := (allK_lt he).2
              rw [hE] at this
              simp only at this
              omega
            · have := (rowK_lt he).2
              rw [hE] at this
              simp only at this
              omega
          · simp
            refine h18 _ _ _ (next (by simp) ?_)
            rw [rowK_succ, hent, hsc]
            simp [heapE, Ru.cells]
        · simp [hs]
          refine ⟨by omega, no (by simp [ent1, hs])⟩
      · simp [hle, heapE, Ru.cells]
        exact no (by simp [ent1, hle])
    · simp
      refine h13 _ _ _ ?_
      refine h10 _ _ _ ?_
      refine h9 _ _ _ ?_
      simp [wrap64 (x := (i : Int) + 1) (by omega) (by omega)]
      have hjc : j = cntK r := by simp at hc; omega
      subst hjc
      exact h6 _ _ _ (again (m - 1) (by omega) ⟨i + 1, by omega, by simp, by rw [allK_succ]; rfl⟩)
  · simp
    refine h5 _ _ _ ?_
    refine h3 _ _ _ ?_
    have hin : i = t.length - 1 := by simp at hc; omega
    subst hin
    clear h5 h6 h8 h3
    refine ab_seq_k fun K22 h22 => ?_
    refine ab_seq_k fun K23 h23 => ?_
    generalize hE : allK t r (t.length - 1) = E
    simp [heapE, mapE]
    refine rng_K (es := (tE 0 E).map encE) (c := E.length) rfl ?_
    simp
    refine h23 _ _ _ ?_
    refine ab_block_k fun K24 h24 => ?_
    refine ab_loop_k (inv77_2 t b ft fb r E) _ ⟨[], rfl, by simp, by simp [heapE, List.filter_eq_self.2]⟩ ?_ -- live 2 3 5 75
    rintro m env σ ⟨seen, hm, rfl, rfl⟩ K25 h25
    rw [ic77_2]
    refine ab_seq_k fun K26 h26 => ?_
    simp [heapE]
    refine nxt_K (es := ((tE 0 E).filter fun p => !decide (p.1 ∈ seen) || !badK t b r p.2).map encE) (since := E.length) (mid := 2) (seen := seen) rfl rfl ?_ ?_ ?_
    · intro e he
      obtain ⟨p, hp, rfl⟩ := List.mem_map.1 he
      have := (tE_lt (List.mem_filter.1 hp).1).2.1
      simpa [encE] using this
    · intro hall
      simp
      refine h26 _ _ _ ?_
      refine ab_seq_k fun K27 h27 => ?_
      refine ab_cond_of rfl (fun hc => by cases hc) (fun _ => ?_)
      simp -- exit 4
      refine h24 _ _ _ ?_
      refine h22 _ _ _ ?_
      refine ab_seq_k fun K31 h31 => ?_
      simp
      refine h31 _ _ _ ?_
      have hf : ((tE 0 E).filter fun p => !decide (p.1 ∈ seen) || !badK t b r p.2) = (tE 0 E).filter fun p => !badK t b r p.2 := by
        refine List.filter_congr (fun p hp => ?_)
        cases hb' : badK t b r p.2 with
        | false => simp
        | true =>
          by_cases hs : p.1 ∈ seen
          · simp [hs]
          · exfalso
            exact hs (hall (encE p) (List.mem_map.2 ⟨p, List.mem_filter.2 ⟨hp, by simp [hs]⟩, rfl⟩))
      rw [hf]
      have hk : ∀ (k : Nat) (l : Kn), ((tE k l).filter fun p => !badK t b r p.2).map (fun p => (spotV p.2.1, V.i .i64 p.2.2)) = (l.filter fun e => !badK t b r e).map entV := by
        intro k l
        induction l generalizing k with
        | nil => rfl
        | cons e l ih =>
          simp only [tE, List.filter_cons]
          split
          · simp only [List.map_cons, ih]; rfl
          · exact ih _
      have hkn : knownK t b r = E.filter fun e => !badK t b r e := by rw [knownK, hE]
      simp only [ab_ret]
      refine fin_of 4 ?_
      show frz 4 0 _ (.p 3 0 0) = _ ∧ _
      refine ⟨?_, .inr trivial⟩
      refine (frz_yard (t := t) (b := b) (ft := ft) (fb := fb) (r := r) (c := E.length) (g := [.it 2 E.length seen E.length])).trans ?_
      rw [hk, ← hkn]
      rfl
    · intro e he hns
      obtain ⟨p, hp, rfl⟩ := List.mem_map.1 he
      simp
      refine h26 _ _ _ ?_
      clear h26 K26
      refine ab_seq_k fun K27 h27 => ?_
      refine ab_cond_of rfl (fun _ => ?_) (fun hc => by cases hc)
      simp
      refine h27 _ _ _ ?_
      refine ab_block_k fun K28 h28 => ?_
      refine ab_seq_k fun K29 h29 => ?_
      simp
      refine ent_K (es := ((tE 0 E).filter fun p => !decide (p.1 ∈ seen) || !badK t b r p.2).map encE) (e := encE p) rfl rfl ?_ ?_
      · refine find_born ?_ hp
        exact (tE_born (a := E) (k := 0)).sublist ((List.filter_sublist).map _)
      obtain ⟨q, ⟨⟨x, y⟩, v⟩⟩ := p
      simp [encE, spotV]
      refine h29 _ _ _ ?_
      clear h29 K29
      have hpE := (tE_lt (List.mem_filter.1 hp).1).2.2
      have hqs : q ∉ seen := hns
      simp only at hpE
      obtain ⟨i, hi, hrow⟩ := allK_mem (hE ▸ hpE)
      obtain ⟨j, hj, hen⟩ := rowK_mem hrow
      obtain ⟨hent, hto, -⟩ := ent1_mem hen
      simp only [Prod.mk.injEq] at hent
      obtain ⟨⟨rfl, hy⟩, hv'⟩ := hent
      have hy0 : 0 ≤ y := by omega
      have hyl : y < t.length := by omega
      have g1 : t[y.toNat]? = some (t.getD y.toNat 0) := by rw [List.getD_eq_getElem?_getD, List.getElem?_eq_getElem (by omega)]; rfl
      have hbad : badK t b r (((i : Int), y), v) = (decide (v = 0) || decide (t.getD y.toNat 0 < r.thin) || hasBad b i y) := rfl
      generalize t.getD y.toNat 0 = x at *
      have k1 : t[y.toNat]'(by omega) = x := by rw [List.getElem?_eq_getElem (by omega)] at g1; exact Option.some.inj g1
      refine ab_seq_k fun K30 h30 => ?_
      have fin : ∀ {c : Bool}, c = badK t b r (((i : Int), y), v) → K30 (some 0) [(2, .p 0 0 0), (3, .p 1 0 0), (5, .p 3 0 0), (10, .p 5 0 0), (75, .p 4 0 0), (98, .b c)]
          (heapE t b ft fb r (.map (((tE 0 E).filter fun p => !decide (p.1 ∈ seen) || !badK t b r p.2).map encE) E.length) [.it 2 E.length (seen ++ [q]) E.length, .row 0 [.i .i64 i, .i .i64 y]]) := by
        rintro c rfl
        refine h30 _ _ _ ?_
        have hpt : (q, ((i : Int), y), v) ∈ tE 0 E := (List.mem_filter.1 hp).1
        have hkey : ((tE 0 E).map (·.2.1)).Nodup := by
          have h1 : (tE 0 E).map (·.2.1) = E.map (·.1) := by
            have := congrArg (List.map (·.1)) (tE_snd (a := E) (k := 0))
            rw [List.map_map] at this
            exact this
          rw [h1, ← hE]; exact allK_nodup
        have hm' : ((tE 0 E).filter fun p => decide (p.1 ∉ seen ++ [q])).length < m := by
          rw [← hm]
          have e : ((tE 0 E).filter fun p => decide (p.1 ∉ seen ++ [q])) = ((tE 0 E).filter fun p => decide (p.1 ∉ seen)).filter fun p => !decide (p.1 = q) := by
            rw [List.filter_filter]
            refine List.filter_congr (fun p _ => ?_)
            rw [Bool.eq_iff_iff]
            simp
            exact And.comm
          rw [e, List.length_filter_lt_length_iff_exists]
          exact ⟨_, List.mem_filter.2 ⟨hpt, by simpa using hqs⟩, by simp⟩
        have done : ∀ {env : Env} {es : TE} {g : O}, get env 2 = .p 0 0 0 → get env 3 = .p 1 0 0 → get env 5 = .p 3 0 0 → get env 75 = .p 4 0 0 → es = ((tE 0 E).filter fun p => !decide (p.1 ∈ seen ++ [q]) || !badK t b r p.2) →
            K28 (some 0) env (heapE t b ft fb r (.map (es.map encE) E.length) [.it 2 E.length (seen ++ [q]) E.length, g]) := by
          rintro env es g e1 e2 e3 e4 rfl
          refine h28 _ _ _ (h25 _ _ _ (againF _ 2 5 hm' (by omega) (by simp [heapE]) ⟨seen ++ [q], rfl, ?_, ?_⟩))
          · simp only [keepO_some, keep_cons, keep_nil, get_frz_p e1 (show 0 < 5 by omega), get_frz_p e2 (show 1 < 5 by omega), get_frz_p e3 (show 3 < 5 by omega), get_frz_p e4 (show 4 < 5 by omega)]
          · rw [frzS_heapE]
            simp
        refine ab_cond_of rfl (fun hc => ?_) (fun hc => ?_)
        · simp [heapE]
          refine mdel_E (l := (tE 0 E).filter fun p => !decide (p.1 ∈ seen) || !badK t b r p.2) rfl (hkey.sublist ((List.filter_sublist).map _)) (List.mem_map.2 ⟨_, hp, rfl⟩) ?_
          simp
          refine done rfl rfl rfl rfl ?_
          refine List.filter_congr (fun p hp' => ?_)
          have huniq : p.2.1 = ((i : Int), y) ↔ p.1 = q := by
            constructor
            · intro h; rw [nodup_inj hkey hp' hpt h]
            · intro h; rw [nodup_inj (tE_born (a := E) (k := 0)) hp' hpt h]
          rw [Bool.eq_iff_iff]
          simp [huniq]
          by_cases hpq : p.1 = q
          · have : p = (q, ((i : Int), y), v) := nodup_inj (tE_born (a := E) (k := 0)) hp' hpt hpq
            subst this
            simp [hc]
          · simp [hpq]
        · simp
          refine done rfl rfl rfl rfl ?_
          refine List.filter_congr (fun p hp' => ?_)
          rw [Bool.eq_iff_iff]
          simp
          by_cases hpq : p.1 = q
          · have : p = (q, ((i : Int), y), v) := nodup_inj (tE_born (a := E) (k := 0)) hp' hpt hpq
            subst this
            simp [hc]
          · simp [hpq]
      clear h30
      simp
      by_cases c1 : v = 0
      · simp [c1]
        exact fin (by rw [hbad]; simp [c1])
      · simp [c1, hyl, hy0, g1, k1, Ru.cells]
        by_cases c2 : x < r.thin
        · simp [c2]
          exact fin (by simp [hbad, c2])
        · simp [c2]
          refine callK_of (FSpec.frozen 3 (v := .b (hasBad b i y)) ?_ rfl) ?_
          · simp
            exact bad_ok rfl hb
          · simp
            exact fin (by simp [hbad, c1, c2])
end Go.Ab
