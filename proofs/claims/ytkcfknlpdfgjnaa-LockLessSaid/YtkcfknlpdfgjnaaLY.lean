/- Proof, of the program: the walk. -/
import Derived.Test.YtkcfknlpdfgjnaaLX
set_option linter.unusedVariables false
set_option linter.unusedSimpArgs false
set_option maxHeartbeats 4000000
namespace Go.Ab
open Go Go.Proofs

/-- The canal's heap. -/
def hp3 (T : Tw) (ft : Bool) (room : Int) (S H : List Int) : List O := [O.row 0 (towC T ft room), O.row 0 (towC T ft room), O.row 0 (canC T ft room S H)]
def zRow : O := .row 0 [.i .i64 0, .i .i64 0]
theorem topF_snoc {T : Tw} {L : List Sp} {s : Sp} : topF T (L ++ [s]) = if okS T s = true then max (topF T L) (bS T s) else topF T L := by
  unfold topF
  rw [List.foldl_append]
  rfl
/-- What is left in the map, when so many have been seen. -/
def leftL (T : Tw) (ks : List Sp) (top : Int) (seen : List Nat) : List (Sp × Nat) := ks.zipIdx.filter fun x => !(seen.contains x.2 && decide (bS T x.1 < top))
theorem left_nil {T : Tw} {ks : List Sp} {top : Int} : leftL T ks top [] = ks.zipIdx := by
  unfold leftL
  rw [List.filter_eq_self]
  intro x _
  simp
theorem zip_uniq {ks : List Sp} {x y : Sp × Nat} (hx : x ∈ ks.zipIdx) (hy : y ∈ ks.zipIdx) (h : x.2 = y.2) : x = y := by
  obtain ⟨a, i⟩ := x
  obtain ⟨b, j⟩ := y
  simp only at h
  subst h
  rw [List.mem_zipIdx_iff_getElem?] at hx hy
  simp only at hx hy
  rw [hx] at hy
  cases hy
  rfl
theorem zip_key {ks : List Sp} {x y : Sp × Nat} (hn : ks.Nodup) (hx : x ∈ ks.zipIdx) (hy : y ∈ ks.zipIdx) (h : x.1 = y.1) : x = y := by
  obtain ⟨a, i⟩ := x
  obtain ⟨b, j⟩ := y
  simp only at h
  subst h
  rw [List.mem_zipIdx_iff_getElem?] at hx hy
  simp only at hx hy
  have this := List.pairwise_iff_getElem.1 hn
  obtain ⟨hi, ei⟩ := List.getElem?_eq_some_iff.1 hx
  obtain ⟨hj, ej⟩ := List.getElem?_eq_some_iff.1 hy
  have hij : i = j := by
    rcases Nat.lt_trichotomy i j with h | h | h
    · exact absurd (ei.trans ej.symm) (this i j hi hj h)
    · exact h
    · exact absurd (ej.trans ei.symm) (this j i hj hi h)
  rw [hij]
theorem left_keep {T : Tw} {ks : List Sp} {top : Int} {seen : List Nat} {x : Sp × Nat} (hx : x ∈ ks.zipIdx) (h : ¬ bS T x.1 < top) : leftL T ks top (seen ++ [x.2]) = leftL T ks top seen := by
  unfold leftL
  apply List.filter_congr
  intro y hy
  by_cases he : y.2 = x.2
  · have := zip_uniq hy hx he
    subst this
    simp [h]
  · have : (seen ++ [x.2]).contains y.2 = seen.contains y.2 := by simp [he]
    rw [this]
theorem left_drop {T : Tw} {ks : List Sp} {top : Int} {seen : List Nat} {x : Sp × Nat} (hn : ks.Nodup) (hx : x ∈ ks.zipIdx) (h : bS T x.1 < top) : leftL T ks top (seen ++ [x.2]) = (leftL T ks top seen).filter (fun y => decide (y.1 ≠ x.1)) := by
  unfold leftL
  rw [List.filter_filter]
  apply List.filter_congr
  intro y hy
  by_cases he : y.2 = x.2
  · have := zip_uniq hy hx he
    subst this
    simp [h]
  · have hk : y.1 ≠ x.1 := fun e => he (by rw [zip_key hn hy hx e])
    have : (seen ++ [x.2]).contains y.2 = seen.contains y.2 := by simp [he]
    rw [this]
    simp [hk]
theorem left_sub {T : Tw} {ks : List Sp} {top : Int} {seen : List Nat} {x : Sp × Nat} (h : x ∈ leftL T ks top seen) : x ∈ ks.zipIdx := (List.mem_filter.1 h).1
theorem zip_nodup {ks : List Sp} (hn : ks.Nodup) : (ks.zipIdx.map (·.1)).Nodup := by
  rw [List.zipIdx_map_fst]; exact hn
theorem left_nodup {T : Tw} {ks : List Sp} {top : Int} {seen : List Nat} (hn : ks.Nodup) : ((leftL T ks top seen).map (·.1)).Nodup :=
  (zip_nodup hn).sublist (List.Sublist.map _ List.filter_sublist)
theorem left_all {T : Tw} {ks : List Sp} {top : Int} {seen : List Nat} {s : Sp} (h : ∀ x ∈ leftL T ks top seen, x.2 ∈ seen) : s ∈ (leftL T ks top seen).map (·.1) ↔ s ∈ ks ∧ ¬ bS T s < top := by
  constructor
  · intro hs
    obtain ⟨x, hx, rfl⟩ := List.mem_map.1 hs
    have h1 := h x hx
    obtain ⟨h2, h3⟩ := List.mem_filter.1 hx
    refine ⟨?_, fun hlt => ?_⟩
    · obtain ⟨a, i⟩ := x
      rw [List.mem_zipIdx_iff_getElem?] at h2
      exact List.mem_of_getElem? h2
    · simp [h1, hlt] at h3
  · rintro ⟨hs, hlt⟩
    obtain ⟨i, hi⟩ := List.mem_iff_getElem?.1 hs
    refine List.mem_map.2 ⟨(s, i), List.mem_filter.2 ⟨List.mem_zipIdx_iff_getElem?.2 hi, ?_⟩, rfl⟩
    simp [hlt]
theorem mapE_snoc {T : Tw} {ks : List Sp} {s : Sp} : mapE T (ks ++ [s]).zipIdx = mapE T ks.zipIdx ++ [(ks.length, spotV s, .i .i64 (bS T s))] := by
  rw [List.zipIdx_append]
  simp [mapE, mkE]

theorem pure_zRow {k n : Nat} {σ : List O} : frzO (k + 1) n σ zRow = zRow := frzO_pure (by rfl)
theorem frz5 {T : Tw} {ft : Bool} {room : Int} {S H : List Int} {k c : Nat} {L : List (Sp × Nat)} {g : List O} : frzS (k + 1) 5 (O.row 0 (towC T ft room) :: O.row 0 (towC T ft room) :: O.row 0 (canC T ft room S H) :: zRow :: O.map (mapE T L) c :: g) = [O.row 0 (towC T ft room), O.row 0 (towC T ft room), O.row 0 (canC T ft room S H), zRow, O.map (mapE T L) c] := by
  unfold frzS
  simp only [List.take_succ_cons, List.take_zero, List.map_cons, List.map_nil, frzO_pure pure_towC, frzO_pure pure_canC, pure_mapE, pure_zRow]
theorem frz6 {T : Tw} {ft : Bool} {room : Int} {S H : List Int} {k c c1 c2 : Nat} {sn : List Nat} {L : List (Sp × Nat)} {g : List O} : frzS (k + 1) 6 (O.row 0 (towC T ft room) :: O.row 0 (towC T ft room) :: O.row 0 (canC T ft room S H) :: zRow :: O.map (mapE T L) c :: O.it 4 c1 sn c2 :: g) = [O.row 0 (towC T ft room), O.row 0 (towC T ft room), O.row 0 (canC T ft room S H), zRow, O.map (mapE T L) c, O.it 4 c1 sn c2] := by
  unfold frzS
  have h : ∀ σ, frzO (k + 1) 6 σ (O.it 4 c1 sn c2) = O.it 4 c1 sn c2 := fun σ => by simp [frzO]
  simp only [List.take_succ_cons, List.take_zero, List.map_cons, List.map_nil, frzO_pure pure_towC, frzO_pure pure_canC, pure_mapE, pure_zRow, h]

theorem take_of_keep {σ σ' : List O} {n : Nat} (h : ∀ j, j < n → σ'[j]? = σ[j]?) : σ'.take n = σ.take n := by
  apply List.ext_getElem?
  intro j
  rw [List.getElem?_take, List.getElem?_take]
  split
  · rename_i hj; exact h j hj
  · rfl
theorem take_get' {σ L : List O} {n j : Nat} (h : σ.take n = L) (hj : j < n) : σ[j]? = L[j]? := by
  rw [← h, List.getElem?_take, if_pos hj]
theorem maxTo_succ {T : Tw} {L : List Sp} {i : Nat} {s : Sp} {p : Sp → Bool} (h : L[i]? = some s) : (L.take (i + 1)).filter p = (L.take i).filter p ++ if p s = true then [s] else [] := by
  rw [List.take_add_one, h, List.filter_append]
  split <;> rename_i hp <;> simp [hp]

theorem proof69 {T : Tw} {ft : Bool} {room : Int} {S H : List Int} (hb : TB T) (hl : T.length ≤ 7) (hn1 : 1 ≤ T.length) : FSpec Try.prog 69 [.p 2 0 0] (hp3 T ft room S H) (spotV (proofS T)) (hp3 T ft room S H) := by
  refine fn69.spec mixed noIt_ok ?_
  rw [ic69]
  obtain ⟨hP, hne, hlst⟩ := proof_is hb hn1
  have hln : (spotsL T).length ≤ 30 := by
    have h1 : spotsL T = spotsTo T T.length := by simp [spotsTo, spotsL]
    rw [h1, spotsTo_len (Nat.le_refl _)]; omega
  have hsp := fun g : List O => spots_ok (T := T) (ft := ft) (room := room) (S := S) (H := H) (σ := hp3 T ft room S H ++ g) (id := 2) hb (by omega) hn1 rfl
  unfold hp3 at *
  refine ab_seq_k fun K1 h1 => ?_
  simp
  refine h1 _ _ _ ?_
  clear h1 K1
  refine ab_seq_k fun K2 h2 => ?_
  simp
  refine h2 _ _ _ ?_
  clear h2 K2
  refine ab_seq_k fun K3 h3 => ?_
  simp
  refine h3 _ _ _ ?_
  clear h3 K3
  refine ab_seq_k fun K4 h4 => ?_
  refine ab_seq_k fun K5 h5 => ?_
  simp
  refine callK_of (hsp [O.row 0 [V.i IntKind.i64 0, V.i IntKind.i64 0], O.map [] 0]) ?_
  simp
  refine h5 _ _ _ ?_
  clear h5 K5
  refine ab_block_k fun K6 h6 => ?_
  refine ab_loop_k (fun m env σ => ∃ i : Nat, i + m = (spotsL T).length ∧ env = [(0, .p 2 0 0), (2, .p 3 0 0), (3, .m 4), (4, .i .i64 (topF T ((spotsL T).take i))), (18, slL (spotsL T) false), (19, .i .i64 (spotsL T).length), (20, .i .i64 i)] ∧
      σ = [O.row 0 (towC T ft room), O.row 0 (towC T ft room), O.row 0 (canC T ft room S H), zRow, O.map (mapE T (ksTo T ((spotsL T).take i)).zipIdx) (ksTo T ((spotsL T).take i)).length]) (spotsL T).length ⟨0, by omega, by simp [topF], by simp [zRow, ksTo, mapE]⟩ ?_
  rintro m env σ ⟨i, hi, rfl, rfl⟩ K7 h7
  rw [ic69_0]
  refine ab_seq_k fun K8 h8 => ?_
  simp
  refine h8 _ _ _ ?_
  clear h8 K8
  refine ab_seq_k fun K9 h9 => ?_
  refine ab_cond_of rfl (fun hc => ?_) (fun hc => ?_)
  · have hil : i < (spotsL T).length := by simpa using hc
    obtain ⟨s, hs⟩ : ∃ s, (spotsL T)[i]? = some s := ⟨_, List.getElem?_eq_getElem hil⟩
    obtain ⟨c1, c2, c3⟩ := spots_mem (List.mem_of_getElem? hs) hb
    obtain ⟨z1, z2, z3⟩ := lsV_get hs
    have hm2 : min 2 ((spotsL T).length * 2 - i * 2) = 2 := by omega
    have hle : i * 2 + 2 ≤ (spotsL T).length * 2 := by omega
    have htk : (spotsL T).take (i + 1) = (spotsL T).take i ++ [s] := by rw [List.take_add_one, hs]; rfl
    have hks := ksTo_snoc (T := T) (L := (spotsL T).take i) (s := s)
    have htp := topF_snoc (T := T) (L := (spotsL T).take i) (s := s)
    rw [← htk] at hks htp
    generalize hK0 : ksTo T ((spotsL T).take i) = ks at *
    generalize hT0 : topF T ((spotsL T).take i) = top at *
    simp
    refine h9 _ _ _ ?_
    clear h9 K9
    refine ab_seq_k fun K10 h10 => ?_
    refine ab_block_k fun K11 h11 => ?_
    have hend : ∀ env σ' g ks' top', get env 0 = .p 2 0 0 → get env 2 = .p 3 0 0 → get env 3 = .m 4 → get env 4 = .i .i64 top' → get env 18 = slL (spotsL T) false → get env 19 = .i .i64 (spotsL T).length → get env 20 = .i .i64 i → top' = topF T ((spotsL T).take (i + 1)) → ks' = ksTo T ((spotsL T).take (i + 1)) →
        σ' = [O.row 0 (towC T ft room), O.row 0 (towC T ft room), O.row 0 (canC T ft room S H), zRow, O.map (mapE T ks'.zipIdx) ks'.length] ++ g → K11 (some 0) env σ' := by
      rintro env σ' g ks' top' w0 w2 w3 w4 w18 w19 w20 rfl rfl rfl
      refine h11 _ _ _ ?_
      refine h10 _ _ _ ?_
      simp [w0, w2, w3, w4, w18, w19, w20, wrap64 (x := (i : Int) + 1) (by omega) (by omega)]
      refine h7 _ _ _ (againF (m - 1) 1 5 (by omega) (by simp) (by simp) ⟨i + 1, by omega, by simp [frz], ?_⟩)
      exact frz5 (k := 0)
    clear h10 h11
    refine ab_seq_k fun K12 h12 => ?_
    simp [z1, hil, hm2, hle]
    refine h12 _ _ _ ?_
    clear h12 K12
    refine ab_seq_k fun K13 h13 => ?_
    simp
    refine callK_of (bound_ok (T := T) (ft := ft) (room := room) (lock := s.1) (t := s.2) (S := S) (H := H) (id := 2) hb (by omega) (by omega) (by omega) rfl) ?_
    have hbs : (boundF T s.1 s.2).1 = bS T s := rfl
    have hos : (boundF T s.1 s.2).2 = okS T s := rfl
    rw [hbs, hos]
    simp
    refine h13 _ _ _ ?_
    clear h13 K13
    refine ab_seq_k fun K14 h14 => ?_
    simp
    refine h14 _ _ _ ?_
    clear h14 K14
    refine ab_cond_of rfl (fun hc2 => ?_) (fun hc2 => ?_)
    · have hok : okS T s = true := by simpa using hc2
      rw [if_pos hok] at htp
      refine ab_seq_k fun K15 h15 => ?_
      simp
      have hms : ∀ (C : Ct) (σ2 : List O), σ2[4]? = some (O.map (mapE T ks.zipIdx) ks.length) → C .u (σ2.set 4 (O.map (mapE T (ksTo T (List.take (i + 1) (spotsL T))).zipIdx) (ksTo T (List.take (i + 1) (spotsL T))).length)) → msetK .i64 2 (.m 4) (spotV s) (.i .i64 (bS T s)) σ2 C := by
        intro C σ2 h4 hC
        unfold msetK
        simp only [keyOf_spot, h4]
        refine ⟨keysOK_map, ?_⟩
        by_cases hm : s ∈ ks
        · have hz : s ∈ (ks.zipIdx).map (·.1) := by rw [List.zipIdx_map_fst]; exact hm
          obtain ⟨j, e1, e2, -⟩ := idxM_some (T := T) hz
          rw [if_neg (fun h => h.2 hm)] at hks
          rw [hks] at hC
          simp only [e1, e2]
          exact hC
        · have hz : s ∉ (ks.zipIdx).map (·.1) := by rw [List.zipIdx_map_fst]; exact hm
          rw [if_pos ⟨hok, hm⟩] at hks
          rw [hks] at hC
          rw [mapE_snoc] at hC
          rw [idxM_none hz]
          simp only [List.length_append, List.length_singleton] at hC
          exact hC
      refine hms _ _ rfl ?_
      simp
      refine h15 _ _ _ ?_
      clear h15 K15
      simp
      exact hend _ _ [O.row 0 [V.i IntKind.i64 s.fst, V.i IntKind.i64 s.snd]] _ _ rfl rfl rfl rfl rfl rfl rfl (by rw [htp]) rfl rfl
    · have hok : ¬ okS T s = true := by simpa using hc2
      rw [if_neg hok] at htp
      rw [if_neg (fun h => hok h.1)] at hks
      simp
      exact hend _ _ [O.row 0 [V.i IntKind.i64 s.fst, V.i IntKind.i64 s.snd]] _ _ rfl rfl rfl rfl rfl rfl rfl htp.symm hks.symm rfl
  · have hil : i = (spotsL T).length := by simp at hc; omega
    subst hil
    rw [List.take_length]
    simp
    refine h6 _ _ _ ?_
    refine h4 _ _ _ ?_
    clear h4 h6 h7 h9 K4
    obtain ⟨hkn, hkm⟩ := ksTo_spec (T := T) (spotsL T)
    generalize hK0 : ksTo T (spotsL T) = ks at *
    generalize hT0 : topF T (spotsL T) = top at *
    refine ab_seq_k fun K12 h12 => ?_
    refine ab_seq_k fun K13 h13 => ?_
    simp
    simp only [rngK]
    simp
    refine h13 _ _ _ ?_
    clear h13 K13
    refine ab_block_k fun K14 h14 => ?_
    refine ab_loop_k (fun m env σ => ∃ seen : List Nat, seen.length + m = ks.length ∧ seen.Nodup ∧ (∀ j ∈ seen, j < ks.length) ∧ env = [(0, .p 2 0 0), (2, .p 3 0 0), (3, .m 4), (4, .i .i64 top), (39, .p 5 0 0)] ∧
      σ = [O.row 0 (towC T ft room), O.row 0 (towC T ft room), O.row 0 (canC T ft room S H), zRow, O.map (mapE T (leftL T ks top seen)) ks.length, O.it 4 ks.length seen ks.length]) ks.length ⟨[], by simp, by simp, by simp, by simp, by simp [left_nil]⟩ ?_
    rintro m env σ ⟨seen, hm, hsn, hsl, rfl, rfl⟩ K15 h15
    rw [ic69_1]
    refine ab_seq_k fun K16 h16 => ?_
    simp
    simp only [nxtK]
    simp
    refine ⟨?_, ?_, ?_⟩
    · intro a b c h
      obtain ⟨x, hx, he⟩ := List.mem_map.1 h
      have hx2 := left_sub hx
      obtain ⟨s, j⟩ := x
      simp only [mkE, Prod.mk.injEq] at he
      rw [List.mem_zipIdx_iff_getElem?] at hx2
      have := (List.getElem?_eq_some_iff.1 hx2).1
      omega
    · intro hall
      have hall2 : ∀ x ∈ leftL T ks top seen, x.2 ∈ seen := fun x hx => hall _ _ _ (List.mem_map_of_mem (f := mkE T) hx)
      have hin := fun s => left_all (s := s) hall2
      refine h16 _ _ _ ?_
      refine ab_seq_k fun K17 h17 => ?_
      refine ab_cond_of rfl (fun hc => by cases hc) (fun hc => ?_)
      simp
      refine h14 _ _ _ ?_
      refine h12 _ _ _ ?_
      have hmaxE : maxL T = (spotsL T).filter fun s => okS T s && !decide (bS T s < top) := by unfold maxL; rw [hT0]
      have hlk : ∀ s ∈ spotsL T, ((okS T s && !decide (bS T s < top)) = true ↔ s ∈ (leftL T ks top seen).map (·.1)) := by
        intro s hs
        rw [hin, hkm]
        simp [hs]
      generalize hEE : leftL T ks top seen = E at *
      clear hin hall2 hall h14 h15 h16 h17
      refine ab_seq_k fun K20 h20 => ?_
      simp
      refine h20 _ _ _ ?_
      clear h20 K20
      refine ab_seq_k fun K21 h21 => ?_
      refine ab_seq_k fun K22 h22 => ?_
      simp
      refine callK_of (hsp [zRow, O.map (mapE T E) ks.length, O.it 4 ks.length seen ks.length]) ?_
      simp
      refine h22 _ _ _ ?_
      clear h22 K22
      refine ab_block_k fun K23 h23 => ?_
      refine ab_loop_k (fun m env σ => ∃ (i : Nat) (v : V), i + m = (spotsL T).length ∧ env = [(2, .p 3 0 0), (3, .m 4), (11, v), (51, slL (spotsL T) false), (52, .i .i64 (spotsL T).length), (53, .i .i64 i)] ∧
        σ.take 6 = [O.row 0 (towC T ft room), O.row 0 (towC T ft room), O.row 0 (canC T ft room S H), zRow, O.map (mapE T E) ks.length, O.it 4 ks.length seen ks.length] ∧
        Gr 6 2 σ v (((spotsL T).take i).filter fun s => okS T s && !decide (bS T s < top)).length (lsV (((spotsL T).take i).filter fun s => okS T s && !decide (bS T s < top)))) (spotsL T).length ⟨0, _, by omega, by simp; rfl, by simp, by simp; exact Gr.nil⟩ ?_
      clear hm hsn hsl m
      rintro m env σ ⟨i, v, hi, rfl, htk6, hv⟩ K24 h24
      have h6len : 6 ≤ σ.length := by
        have := congrArg List.length htk6
        rw [List.length_take] at this
        simp at this
        omega
      rw [ic69_2]
      refine ab_seq_k fun K25 h25 => ?_
      simp
      refine h25 _ _ _ ?_
      clear h25 K25
      refine ab_seq_k fun K26 h26 => ?_
      refine ab_cond_of rfl (fun hc2 => ?_) (fun hc2 => ?_)
      · have hil : i < (spotsL T).length := by simpa using hc2
        obtain ⟨s, hs⟩ : ∃ s, (spotsL T)[i]? = some s := ⟨_, List.getElem?_eq_getElem hil⟩
        obtain ⟨z1, z2, z3⟩ := lsV_get hs
        have hm2 : min 2 ((spotsL T).length * 2 - i * 2) = 2 := by omega
        have hle : i * 2 + 2 ≤ (spotsL T).length * 2 := by omega
        have hlks := hlk s (List.mem_of_getElem? hs)
        have hstep := maxTo_succ (T := T) (p := fun s => okS T s && !decide (bS T s < top)) hs
        have hxl : (((spotsL T).take i).filter fun s => okS T s && !decide (bS T s < top)).length ≤ 30 := by
          have h1 := List.length_filter_le (fun s => okS T s && !decide (bS T s < top)) ((spotsL T).take i)
          rw [List.length_take] at h1
          omega
        generalize ((spotsL T).take i).filter (fun s => okS T s && !decide (bS T s < top)) = X at *
        generalize hX2 : ((spotsL T).take (i + 1)).filter (fun s => okS T s && !decide (bS T s < top)) = X2 at *
        simp
        refine h26 _ _ _ ?_
        clear h26 K26
        refine ab_seq_k fun K27 h27 => ?_
        refine ab_block_k fun K28 h28 => ?_
        have hend : ∀ env σ' v', get env 2 = .p 3 0 0 → get env 3 = .m 4 → get env 11 = v' → get env 51 = slL (spotsL T) false → get env 52 = .i .i64 (spotsL T).length → get env 53 = .i .i64 i →
            σ'.take 6 = [O.row 0 (towC T ft room), O.row 0 (towC T ft room), O.row 0 (canC T ft room S H), zRow, O.map (mapE T E) ks.length, O.it 4 ks.length seen ks.length] → Gr 6 2 σ' v' X2.length (lsV X2) → K28 (some 0) env σ' := by
          intro env σ' v' w2 w3 w11 w51 w52 w53 a1 a2
          refine h28 _ _ _ ?_
          refine h27 _ _ _ ?_
          simp [w2, w3, w11, w51, w52, w53, wrap64 (x := (i : Int) + 1) (by omega) (by omega)]
          exact h24 _ _ _ (again (m - 1) (by omega) ⟨i + 1, v', by omega, by simp, a1, by rw [hX2]; exact a2⟩)
        clear h27 h28
        refine ab_seq_k fun K29 h29 => ?_
        simp [z1, hil, hm2, hle]
        refine h29 _ _ _ ?_
        clear h29 K29
        have hsr : (σ ++ [O.row 0 [V.i IntKind.i64 s.1, V.i IntKind.i64 s.2]])[σ.length]? = some (.row 0 [.i .i64 s.1, .i .i64 s.2]) := by simp
        have htk6' : (σ ++ [O.row 0 [V.i IntKind.i64 s.1, V.i IntKind.i64 s.2]]).take 6 = _ := (List.take_append_of_le_length h6len).trans htk6
        replace hv := hv.app (g := [O.row 0 [V.i IntKind.i64 s.1, V.i IntKind.i64 s.2]])
        replace h6len : 6 ≤ (σ ++ [O.row 0 [V.i IntKind.i64 s.1, V.i IntKind.i64 s.2]]).length := by simp; omega
        generalize σ ++ [O.row 0 [V.i IntKind.i64 s.1, V.i IntKind.i64 s.2]] = U at *
        generalize σ.length = il at *
        obtain ⟨hsrl, hsr'⟩ := List.getElem?_eq_some_iff.1 hsr
        have hU4 : U[4]? = some (O.map (mapE T E) ks.length) := by rw [take_get' htk6' (by omega)]; rfl
        refine ab_seq_k fun K30 h30 => ?_
        simp [hsr, hsr']
        have hlkc : ∀ C : Ct, C (if s ∈ E.map (·.1) then .tup [.i .i64 (bS T s), .b true] else .tup [.i .i64 0, .b false]) U → lkpC .i64 2 (.i .i64 0) true (.m 4) (spotV s) U C := by
          intro C hC
          unfold lkpC lkpK
          simp only [keyOf_spot, hU4, lkpF]
          refine ⟨keysOK_map, ?_⟩
          rw [findM_map]
          split
          · rename_i v hv2
            split at hv2
            · rename_i hmm
              cases hv2
              rw [if_pos hmm] at hC
              exact hC
            · cases hv2
          · rename_i hv2
            split at hv2
            · cases hv2
            · rename_i hmm
              rw [if_neg hmm] at hC
              exact hC
        refine hlkc _ ?_
        by_cases hmm : s ∈ E.map (·.1)
        · rw [if_pos hmm]
          have hq := hlks.2 hmm
          rw [if_pos hq] at hstep
          simp
          refine h30 _ _ _ ?_
          clear h30 K30
          refine ab_seq_k fun K31 h31 => ?_
          simp
          refine h31 _ _ _ ?_
          clear h31 K31
          refine ab_cond_of rfl (fun _ => ?_) (fun h => by cases h)
          simp [hsr, hsr']
          have hrow : lsV X ++ [V.i IntKind.i64 s.1, V.i IntKind.i64 s.2] = lsV X2 := by rw [hstep, lsV_app]; rfl
          have hlen2 : X2.length = X.length + 1 := by rw [hstep]; simp
          refine appG hv (by omega) (by omega) (by simp) (by simp) ?_
          intro v' σ' hg1 hg2
          rw [hrow] at hg1
          simp
          exact hend _ σ' v' rfl rfl rfl rfl rfl rfl (by rw [take_of_keep (fun j hj => hg2.lt hv hj h6len)]; exact htk6') (by rw [hlen2]; exact hg1)
        · rw [if_neg hmm]
          have hq : ¬ (okS T s && !decide (bS T s < top)) = true := fun h => hmm (hlks.1 h)
          rw [if_neg hq, List.append_nil] at hstep
          simp
          refine h30 _ _ _ ?_
          clear h30 K30
          refine ab_seq_k fun K31 h31 => ?_
          simp
          refine h31 _ _ _ ?_
          clear h31 K31
          refine ab_cond_of rfl (fun h => by cases h) (fun _ => ?_)
          simp
          exact hend _ U v rfl rfl rfl rfl rfl rfl htk6' (by rw [hstep]; exact hv)
      · have hil : i = (spotsL T).length := by simp at hc2; omega
        subst hil
        rw [List.take_length, ← hmaxE] at hv
        simp
        refine h23 _ _ _ ?_
        refine h21 _ _ _ ?_
        refine ab_seq_k fun K32 h32 => ?_
        have hml : (maxL T).length ≤ 30 := by
          have h1 := List.length_filter_le (fun s => okS T s && !decide (bS T s < top)) (spotsL T)
          rw [← hmaxE] at h1
          omega
        have hmp : 0 < (maxL T).length := List.length_pos_iff.2 hne
        simp
        refine callK_of (σ' := σ) (v := .i .i64 (leastBy lexS (maxL T) (maxL T).length)) (FSpec.frozen 2 ?_ rfl) ?_
        · have hz : frz 2 0 σ v = slL (maxL T) false := by
            rw [frz_G hv (by simp)]
            unfold slL
            have : ((maxL T).length == 0) = false := by simp; omega
            rw [this]
          have hfn : frz 2 0 σ (.f (.func 81) [] []) = .f (.func 81) [] [] := by simp [frz]
          simp only [List.map_cons, List.map_nil, hz, hfn]
          exact least80 (by omega)
        · rcases hv.cases with ⟨h1, -, -⟩ | ⟨id, ver, hn, hid, hvv, hss, hidl⟩
          · omega
          · subst hvv
            have hps : (maxL T)[leastBy lexS (maxL T) (maxL T).length]? = some (proofS T) := by
              unfold proofS
              rw [List.getD_eq_getElem?_getD, List.getElem?_eq_getElem hlst]
              rfl
            obtain ⟨z1, z2, z3⟩ := lsV_get hps
            have h3 : σ[3]? = some zRow := by rw [take_get' htk6 (by omega)]; rfl
            obtain ⟨h3l, h3'⟩ := List.getElem?_eq_some_iff.1 h3
            obtain ⟨hssl, hss'⟩ := List.getElem?_eq_some_iff.1 hss
            generalize leastBy lexS (maxL T) (maxL T).length = kk at *
            have hm2 : min 2 ((maxL T).length * 2 - kk * 2) = 2 := by omega
            have hle : kk * 2 + 2 ≤ (maxL T).length * 2 := by omega
            simp [hss, hss', z1, hlst, hm2, hle, h3, h3', zRow]
            refine h32 _ _ _ ?_
            have hset : (σ.set 3 (O.row 0 [V.i IntKind.i64 (proofS T).1, V.i IntKind.i64 (proofS T).2]))[3]? = some (O.row 0 [V.i IntKind.i64 (proofS T).1, V.i IntKind.i64 (proofS T).2]) := List.getElem?_set_self h3l
            have htk3 : (σ.set 3 (O.row 0 [V.i IntKind.i64 (proofS T).1, V.i IntKind.i64 (proofS T).2])).take 3 = [O.row 0 (towC T ft room), O.row 0 (towC T ft room), O.row 0 (canC T ft room S H)] := by
              rw [List.take_set_of_le (by omega)]
              have : σ.take 3 = (σ.take 6).take 3 := by rw [List.take_take]; rfl
              rw [this, htk6]; rfl
            have hWl : 3 ≤ (σ.set 3 (O.row 0 [V.i IntKind.i64 (proofS T).1, V.i IntKind.i64 (proofS T).2])).length := by simp; omega
            generalize σ.set 3 (O.row 0 [V.i IntKind.i64 (proofS T).1, V.i IntKind.i64 (proofS T).2]) = W at *
            simp
            refine fin_at 1 3 (by simp) hWl ?_
            simp [rs69, hset]
            refine ⟨rfl, ?_⟩
            have hW : W = [O.row 0 (towC T ft room), O.row 0 (towC T ft room), O.row 0 (canC T ft room S H)] ++ W.drop 3 := by rw [← htk3, List.take_append_drop]
            have key := frzS_pureL (k := 0) (base := [O.row 0 (towC T ft room), O.row 0 (towC T ft room), O.row 0 (canC T ft room S H)]) (g := W.drop 3) (by intro o ho; simp at ho; rcases ho with rfl | rfl | rfl <;> exact pureO_row (by first | exact pure_towC | exact pure_canC))
            rw [← hW] at key
            exact key
    · intro a b c hmem hns
      obtain ⟨x, hx, he⟩ := List.mem_map.1 hmem
      have hx2 := left_sub hx
      have hxa : x.2 = a := by rw [mkE] at he; exact congrArg Prod.fst he
      subst hxa
      have hxl : x.2 < ks.length := by
        obtain ⟨s, j⟩ := x
        rw [List.mem_zipIdx_iff_getElem?] at hx2
        exact (List.getElem?_eq_some_iff.1 hx2).1
      have hsn2 : (seen ++ [x.2]).Nodup := by
        rw [List.nodup_append]
        exact ⟨hsn, by simp, fun a ha b hb => by simp at hb; subst hb; rintro rfl; exact hns ha⟩
      have hsl2 : ∀ j ∈ seen ++ [x.2], j < ks.length := fun j hj => by
        rcases List.mem_append.1 hj with hj | hj
        · exact hsl j hj
        · simp at hj; omega
      have hlen : (seen ++ [x.2]).length ≤ ks.length := by
        have := hsn2.length_le_of_subset (l₂ := List.range ks.length) (fun j hj => List.mem_range.2 (hsl2 j hj))
        simpa using this
      rw [List.length_append, List.length_singleton] at hlen
      refine h16 _ _ _ ?_
      refine ab_seq_k fun K17 h17 => ?_
      refine ab_cond_of rfl (fun hc => ?_) (fun hc => by cases hc)
      simp
      refine h17 _ _ _ ?_
      clear h16 h17 K16 K17
      refine ab_block_k fun K18 h18 => ?_
      refine ab_seq_k fun K19 h19 => ?_
      simp
      have hent : ∀ (C : Ct), C (.tup [spotV x.1, .i .i64 (bS T x.1)]) [O.row 0 (towC T ft room), O.row 0 (towC T ft room), O.row 0 (canC T ft room S H), zRow, O.map (mapE T (leftL T ks top seen)) ks.length, O.it 4 ks.length (seen ++ [x.2]) ks.length] →
          entC (.p 5 0 0) [O.row 0 (towC T ft room), O.row 0 (towC T ft room), O.row 0 (canC T ft room S H), zRow, O.map (mapE T (leftL T ks top seen)) ks.length, O.it 4 ks.length (seen ++ [x.2]) ks.length] C := by
        intro C hC
        have hf := find_map (T := T) hx (fun y hy e => zip_uniq (left_sub hy) hx2 e)
        unfold entC entK
        simp [hf]
        exact hC
      refine hent _ ?_
      simp [spotV]
      refine h19 _ _ _ ?_
      clear h19 K19
      have hend : ∀ env σ', keepO (frzE 1 6 σ' env) (some [0, 2, 3, 4, 39]) = [(0, .p 2 0 0), (2, .p 3 0 0), (3, .m 4), (4, .i .i64 top), (39, .p 5 0 0)] →
          σ' = [O.row 0 (towC T ft room), O.row 0 (towC T ft room), O.row 0 (canC T ft room S H), zRow, O.map (mapE T (leftL T ks top (seen ++ [x.2]))) ks.length, O.it 4 ks.length (seen ++ [x.2]) ks.length, O.row 0 [V.i IntKind.i64 x.1.1, V.i IntKind.i64 x.1.2]] → K18 (some 0) env σ' := by
        rintro env σ' w0 rfl
        refine h18 _ _ _ ?_
        refine h15 _ _ _ (againF (m - 1) 1 6 (by omega) (by simp) (by simp) ⟨seen ++ [x.2], by simp; omega, hsn2, hsl2, w0, ?_⟩)
        exact frz6 (k := 0)
      refine ab_seq_k fun K20 h20 => ?_
      simp
      refine h20 _ _ _ ?_
      clear h20 K20
      refine ab_cond_of rfl (fun hc => ?_) (fun hc => ?_)
      · have hlt : bS T x.1 < top := by simpa using hc
        simp
        have hmd : ∀ (C : Ct) (σ2 : List O), σ2[4]? = some (O.map (mapE T (leftL T ks top seen)) ks.length) → C .u (σ2.set 4 (O.map (mapE T (leftL T ks top (seen ++ [x.2]))) ks.length)) → mdelK .i64 2 (.m 4) (spotV x.1) σ2 C := by
          intro C σ2 h4 hC
          unfold mdelK
          simp only [keyOf_spot, h4]
          refine ⟨keysOK_map, ?_⟩
          obtain ⟨j, e1, -, e3⟩ := idxM_some (T := T) (s := x.1) (L := leftL T ks top seen) (List.mem_map_of_mem hx)
          have e4 := e3 (left_nodup hkn)
          rw [← left_drop hkn hx2 hlt] at e4
          simp only [e1, e4]
          exact hC
        refine hmd _ _ rfl ?_
        simp
        exact hend _ _ (by simp [frz]) rfl
      · have hlt : ¬ bS T x.1 < top := by simpa using hc
        simp
        exact hend _ _ (by simp [frz]) (by rw [left_keep hx2 hlt])

theorem prgProof {T : Tw} {ft : Bool} {room : Int} (hl : (T.length : Int) < 1000000000) : FSpec Try.prog 36 [towV T ft room] [] (proofP T room) [] := by
  refine fn36.spec0 mixed noIt_ok ?_
  rw [ic36]
  refine ab_seq_k fun K1 h1 => ?_
  simp
  refine h1 _ _ _ ?_
  clear h1 K1
  by_cases hct0 : checkTow T room = 0
  · obtain ⟨n1, n7, tb, r0, r7⟩ := tow_len hct0
    have hp := proof69 (T := T) (ft := ft) (room := room) (S := zer7) (H := zer7) tb n7 n1
    unfold hp3 at hp
    refine ab_seq_k fun K2 h2 => ?_
    simp [take_towC]
    refine callK_of (open_ok hl hct0) ?_
    simp [take_towC]
    refine h2 _ _ _ ?_
    clear h2 K2
    refine ab_seq_k fun K3 h3 => ?_
    refine ab_seq_k fun K4 h4 => ?_
    simp
    refine h4 _ _ _ ?_
    clear h4 K4
    refine ab_cond_of rfl (fun h => by cases h) (fun _ => ?_)
    simp
    refine h3 _ _ _ ?_
    clear h3 K3
    refine ab_seq_k fun K5 h5 => ?_
    simp
    refine callK_of hp ?_
    simp [spotV]
    refine h5 _ _ _ ?_
    clear h5 K5
    refine ab_seq_k fun K6 h6 => ?_
    simp
    refine h6 _ _ _ ?_
    clear h6 K6
    simp
    exact fin_of 1 (by simp [rs36, proofP, hct0])
  · refine ab_seq_k fun K2 h2 => ?_
    simp [take_towC]
    refine callK_of (open_no hl hct0) ?_
    simp [take_towC]
    refine h2 _ _ _ ?_
    clear h2 K2
    refine ab_seq_k fun K3 h3 => ?_
    refine ab_seq_k fun K4 h4 => ?_
    simp
    refine h4 _ _ _ ?_
    clear h4 K4
    refine ab_cond_of rfl (fun _ => ?_) (fun h => by simp [hct0] at h)
    refine ab_seq_k fun K5 h5 => ?_
    simp
    refine h5 _ _ _ ?_
    clear h5 K5
    simp
    exact fin_of 1 (by simp [rs36, proofP, hct0])
end Go.Ab
