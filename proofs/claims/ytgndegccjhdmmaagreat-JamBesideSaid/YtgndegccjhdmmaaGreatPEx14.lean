import Derived.Test.YtgndegccjhdmmaaGreatPEx13
/- Part 14 of what the theorem in TE rests on: an abstract layer over the calculus, contracts of the functions of the program, and plain facts. -/
set_option linter.unusedVariables false
set_option linter.unusedSimpArgs false
set_option linter.constructorNameAsVariable false
set_option maxHeartbeats 4000000
set_option maxRecDepth 100000
section
namespace Go.Ab
open Go Go.Proofs
theorem ints25 {a b : List Int} {fa fb : Bool} (ha : (a.length : Int) < 1000000000) : FSpec Tryz.prog 25 [sl a fa, sl b fb] [] (.b (decide (a = b))) [] := by
 refine fn25.spec0 mixed noIt_ok ?_
 rw [ic25]
 refine ab_seq_k fun K1 h1 => ?_
 simp
 refine h1 _ _ _ ?_
 clear h1 K1
 refine ab_seq_k fun K2 h2 => ?_
 refine ab_seq_k fun K3 h3 => ?_
 simp
 refine h3 _ _ _ ?_
 clear h3 K3
 refine ab_cond_of rfl (fun hc => ?_) (fun hc => ?_)
 ·have hne : a ≠ b := by rintro rfl; simp at hc
  refine ab_seq_k fun K4 h4 => ?_
  simp
  refine h4 _ _ _ ?_
  clear h4 K4
  simp
  exact fin_of 1 (by simp [rs25, hne])
 have hlen : a.length = b.length := by simp at hc; omega
 simp
 refine h2 _ _ _ ?_
 clear h2 K2
 refine ab_seq_k fun K5 h5 => ?_
 refine ab_seq_k fun K6 h6 => ?_
 simp
 refine h6 _ _ _ ?_
 clear h6 K6
 refine ab_block_k fun K7 h7 => ?_
 refine ab_loop_k (fun m env σ => ∃ i : Nat, i + m = a.length ∧ a.take i = b.take i ∧ env = [(0, sl a fa), (1, sl b fb), (5, .i .i64 i)]) a.length ⟨0, by omega, by simp, by simp⟩ ?_
 rintro m env σ ⟨i, hi, hpre, rfl⟩ K8 h8
 rw [ic25_0]
 refine ab_seq_k fun K9 h9 => ?_
 refine ab_seq_k fun K10 h10 => ?_
 simp
 refine h10 _ _ _ ?_
 clear h10 K10
 refine ab_cond_of rfl (fun hc2 => ?_) (fun hc2 => ?_)
 ·have hil : i < a.length := by simpa using hc2
  have hilb : i < b.length := by omega
  have hx : a[i]? = some a[i] := List.getElem?_eq_getElem hil
  have hy : b[i]? = some b[i] := List.getElem?_eq_getElem hilb
  have hta : a.take (i + 1) = a.take i ++ [a[i]] := by rw [List.take_add_one, hx]; rfl
  have htb : b.take (i + 1) = b.take i ++ [b[i]] := by rw [List.take_add_one, hy]; rfl
  simp
  refine h9 _ _ _ ?_
  clear h9 K9
  refine ab_seq_k fun K11 h11 => ?_
  refine ab_block_k fun K12 h12 => ?_
  refine ab_seq_k fun K13 h13 => ?_
  simp [hil, hilb]
  refine h13 _ _ _ ?_
  clear h13 K13
  refine ab_cond_of rfl (fun hc3 => ?_) (fun hc3 => ?_)
  ·have hne : a ≠ b := by rintro rfl; simp at hc3
   refine ab_seq_k fun K14 h14 => ?_
   simp
   refine h14 _ _ _ ?_
   clear h14 K14
   simp
   exact fin_of 1 (by simp [rs25, hne])
  ·have he : a[i] = b[i] := by simpa using hc3
   simp
   refine h12 _ _ _ ?_
   refine h11 _ _ _ ?_
   simp [wrap64 (x := (i : Int) + 1) (by omega) (by omega)]
   exact h8 _ _ _ (again (m - 1) (by omega) ⟨i + 1, by omega, by rw [hta, htb, hpre, he], by simp⟩)
 ·have hil : i = a.length := by simp at hc2; omega
  subst hil
  have he : a = b := by
   rw [List.take_length] at hpre
   rw [hpre, List.take_of_length_le (by omega)]
  simp
  refine h7 _ _ _ ?_
  refine h5 _ _ _ ?_
  refine ab_seq_k fun K15 h15 => ?_
  simp
  refine h15 _ _ _ ?_
  clear h15 K15
  simp
  exact fin_of 1 (by simp [rs25, he])
end Go.Ab
end
section
namespace Go.Ab
open Go Go.Proofs
theorem ints_app {a b : List Int} : ints (a ++ b) = ints a ++ ints b := by simp [ints]
theorem SlP.app {σ g : List O} {v : V} {cs : List V} (h : SlP σ v cs) : SlP (σ ++ g) v cs := by
 rcases h with h | ⟨id, ver, rest, h1, h2⟩
 ·exact .inl h
 ·exact .inr ⟨id, ver, rest, h1, app_get h2⟩
def Pre (σ τ : List O) : Prop := ∀ j, j < σ.length → τ[j]? = σ[j]?
theorem Pre.ex {σ τ : List O} (h : Pre σ τ) : ∃ g, τ = σ ++ g := by
 refine ⟨τ.drop σ.length, List.ext_getElem? fun i => ?_⟩
 by_cases hi : i < σ.length
 ·rw [h i hi, List.getElem?_append_left hi]
 ·rw [List.getElem?_append_right (by omega), List.getElem?_drop]
  congr 1
  omega
theorem Pre.refl {σ : List O} : Pre σ σ := fun _ _ => rfl
theorem Pre.len {σ τ : List O} (h : Pre σ τ) : σ.length ≤ τ.length := by
 obtain ⟨g, rfl⟩ := h.ex
 simp
theorem Pre.slp {σ τ : List O} {v : V} {cs : List V} (h : Pre σ τ) (hv : SlP σ v cs) : SlP τ v cs := by
 obtain ⟨g, rfl⟩ := h.ex
 exact hv.app
end Go.Ab
end
section
namespace Go.Ab
open Go Go.Proofs
theorem locks84 {J : List Lg} {f : Bool} {σ : List O} (hJ : JOK J) : FSpecQ Tryz.prog 84 [heapV J f] σ (fun v σ' => Gr σ.length 1 σ' v (locksTo J (2 ^ J.length)).length (us (locksTo J (2 ^ J.length)))) := by
 have hN := hJ.2.1
 have hh : (cellsOf (heapV J f)) = some [heapV J f] := rfl
 have hlk := fun σ s hs => isLock89 (J := J) (f := f) (s := s) (σ := σ) hJ hs
 have hat : ∀ σ, HeapAt J f (heapV J f) σ := fun σ => .inl ⟨_, _, rfl⟩
 have hpw := pow12 hN
 have hlb : ∀ s, s < 2 ^ J.length → s < 65536 := fun s h => by omega
 refine qf84.specQ mixed itT_ok ?_
 rw [q84]
 generalize heapV J f = H at *
 refine ab_seq_k fun K1 h1 => ?_
 simp [hh]
 refine h1 _ _ _ ?_
 clear h1 K1
 refine ab_seq_k fun K2 h2 => ?_
 simp
 refine h2 _ _ _ ?_
 clear h2 K2
 refine ab_seq_k fun K3 h3 => ?_
 refine ab_seq_k fun K4 h4 => ?_
 simp
 refine callK_of (sets91 hh) ?_
 simp
 refine h4 _ _ _ ?_
 clear h4 K4
 refine ab_block_k fun K5 h5 => ?_
 generalize hL0 : σ.length = L0 at *
 generalize hW : 2 ^ J.length = W at *
 refine ⟨W, XSet, SetAt J f (L0 + 1 + 1) H, sets_it hN hW, fun i σ2 => σ2[L0]? = some (.row 0 [H]) ∧ σ2[L0 + 1 + 1]? = some (.row 0 [H]) ∧ ∃ v, σ2[L0 + 1]? = some (.row 0 [v]) ∧ Gr (L0 + 3) 1 σ2 v (locksTo J i).length (us (locksTo J i)), fun i σ2 h => ⟨h.2.1, hat _⟩, ⟨?_, ?_, .ss [] 0 true, ?_, ?_⟩, ?_, ?_⟩
 ·rw [List.getElem?_append_right (by omega), hL0, Nat.sub_self]; rfl
 ·rw [List.getElem?_append_right (by omega), hL0, show L0 + 1 + 1 - L0 = 2 by omega]; rfl
 ·rw [List.getElem?_append_right (by omega), hL0, show L0 + 1 - L0 = 1 by omega]; rfl
 ·simpa [locksTo, us] using Gr.nil
 ·rintro i x σ2 g hi ⟨rfl, rfl⟩ ⟨q0, q2, v, q1, hv⟩
  refine ⟨rfl, ?_⟩
  generalize hKR : roundK _ _ _ = KR
  rw [List.append_nil]
  simp
  rw [q84_0]
  have hi16 := hlb i hi
  obtain ⟨hq2, -⟩ := List.getElem?_eq_some_iff.1 q2
  have hc0 : (σ2 ++ [O.row 0 [V.i .u16 i]])[σ2.length]? = some (O.row 0 [V.i .u16 i]) := by simp
  replace q0 := app_get (g := [O.row 0 [V.i .u16 i]]) q0
  replace q1 := app_get (g := [O.row 0 [V.i .u16 i]]) q1
  replace q2 := app_get (g := [O.row 0 [V.i .u16 i]]) q2
  replace hv := hv.app (g := [O.row 0 [V.i .u16 i]])
  have hcl : L0 + 3 ≤ σ2.length := by omega
  have hdone : ∀ σ3 v, σ3[L0]? = some (.row 0 [H]) → σ3[L0 + 1 + 1]? = some (.row 0 [H]) → σ3[L0 + 1]? = some (.row 0 [v]) → Gr (L0 + 3) 1 σ3 v (locksTo J (i + 1)).length (us (locksTo J (i + 1))) → ∀ env, KR (some 0) env σ3 := by
   intro σ3 v a1 a2 a3 a4 env
   rw [← hKR]
   exact ⟨rfl, .inl ⟨a1, a2, v, a3, a4⟩⟩
  clear hKR hq2
  have hU : σ2.length < (σ2 ++ [O.row 0 [V.i .u16 i]]).length := by simp
  generalize σ2 ++ [O.row 0 [V.i .u16 i]] = U at *
  generalize σ2.length = c at *
  obtain ⟨hq0, q0'⟩ := List.getElem?_eq_some_iff.1 q0
  obtain ⟨hq1, q1'⟩ := List.getElem?_eq_some_iff.1 q1
  obtain ⟨hqc, qc'⟩ := List.getElem?_eq_some_iff.1 hc0
  have hks := locksTo_succ (J := J) (i := i)
  have hkl := locksTo_len (J := J) (i := i)
  have hlt : ∀ x ∈ locksTo J i, x < 65536 := fun x hx => by
   have := List.mem_range.1 (List.mem_filter.1 hx).1
   omega
  have h110 := contains110 (first := []) (fp := 111) (cap := [V.p c 0 0]) (p := fun x => decide (less x i = 0)) hv.slp (by omega) (fun x hx => part111 (hlt x hx) hi16 hc0)
  refine ab_block_k fun K16 h16 => ?_
  refine ab_seq_k fun K18 h18 => ?_
  have hK18 : ∀ env cc, get env 3 = .p (L0 + 1) 0 0 → get env 4 = .p c 0 0 → get env 20 = .b cc → cc = minLock J i → K18 (some 0) env U := by
   intro env cc w3 w4 w20 hcv
   refine h18 _ _ _ ?_
   clear h18
   cases cc with
   | false =>
    rw [← hcv, if_neg (by simp)] at hks
    refine ab_cond_of w20 (fun h => by cases h) (fun _ => ?_)
    simp
    refine h16 _ _ _ ?_
    exact hdone U v q0 q2 q1 (by rw [hks]; exact hv) _
   | true =>
    rw [← hcv, if_pos rfl] at hks
    refine ab_cond_of w20 (fun _ => ?_) (fun h => by cases h)
    simp [w3, w4, q1, q1', hc0, qc']
    refine appG hv (by omega) (by omega) (by omega) rfl ?_
    intro v' σ' hv' hgr
    have hbid : ∀ j, j < L0 + 3 → idOf v ≠ some j := fun j hj e => by have := (hv.id_ge e).1; omega
    have r0 := hgr.get (hbid L0 (by omega)) q0
    have r1 := hgr.get (hbid (L0 + 1) (by omega)) q1
    have r2 := hgr.get (hbid (L0 + 1 + 1) (by omega)) q2
    obtain ⟨hr1, r1'⟩ := List.getElem?_eq_some_iff.1 r1
    simp [w3, w4, r1, r1', hv'.one]
    refine h16 _ _ _ ?_
    refine hdone _ v' ?_ ?_ (List.getElem?_set_self hr1) ?_ _
    ·rw [List.getElem?_set_ne (by omega)]; exact r0
    ·rw [List.getElem?_set_ne (by omega)]; exact r2
    ·have h1 := hv'.setlt (i := L0 + 1) (o := O.row 0 [v']) (by omega)
     rw [hks]
     simpa [us] using h1
  clear h18 hdone
  by_cases hi0 : i = 0
  ·have hm : minLock J i = false := by simp [minLock, lockB, hi0]
   simp [hc0, qc', hi0]
   exact hK18 _ _ rfl rfl rfl hm.symm
  ·cases hl : lockB J i with
   | false =>
    have hm : minLock J i = false := by simp [minLock, hl]
    simp [hc0, qc', hi0, q0, q0']
    refine callK_of (hlk _ _ hi) ?_
    simp [hl]
    exact hK18 _ _ rfl rfl rfl hm.symm
   | true =>
    rw [any_min hl] at h110
    simp [hc0, qc', hi0, q0, q0']
    refine callK_of (hlk _ _ hi) ?_
    simp [hl, q1, q1']
    refine callK_of h110 ?_
    simp
    exact hK18 _ _ rfl rfl rfl rfl
 ·rintro σ2 ⟨q0, q2, v, q1, hv⟩
  refine h5 _ _ _ (h3 _ _ _ ?_)
  obtain ⟨hq1, q1'⟩ := List.getElem?_eq_some_iff.1 q1
  refine ab_seq_k fun K30 h30 => ?_
  simp [q1, q1']
  refine callR_of (tight113 hv.slp ?_ ?_ ?_) ?_
  ·have := locksTo_len (J := J) (i := W); omega
  ·intro s hs
   have := List.mem_range.1 (List.mem_filter.1 hs).1
   omega
  ·intro i k x y hx hy h
   have he := locks_anti (List.mem_of_getElem? hx) (List.mem_of_getElem? hy) h
   subst he
   have hnd : (locksTo J W).Nodup := List.Nodup.sublist List.filter_sublist List.nodup_range
   exact (List.getElem?_inj (List.getElem?_eq_some_iff.1 hy).1 hnd).1 (hy.trans hx.symm)
  ·intro v' σ' hv'
   simp
   refine h30 _ _ _ ?_
   simp
   refine fin_Q ?_
   simp [rs84]
   exact hv'.mono (by omega)
theorem locks84F {J : List Lg} {f : Bool} {σ : List O} (hJ : JOK J) : FSpec Tryz.prog 84 [heapV J f] σ (.ss (us (locksTo J (2 ^ J.length))) (locksTo J (2 ^ J.length)).length ((locksTo J (2 ^ J.length)).length == 0)) σ := by
 refine FSpec.frame (σ := σ) ?_ (by simp) (by simp)
 exact (locks84 hJ).freeze fun v σ' h => ⟨2, frz_G h (by simp)⟩
end Go.Ab
end
section
namespace Go.Ab
open Go Go.Proofs
def locksV (J : List Lg) : V := if checkJ J ≠ 0 then .tup [.ss [] 0 true, .i .i64 (checkJ J)] else .tup [.ss (lv (lexS (locksTo J (2 ^ J.length)))) (locksTo J (2 ^ J.length)).length ((locksTo J (2 ^ J.length)).length == 0), .i .i64 0]
theorem locksV_pure {J} : (locksV J).pure = true := by
 unfold locksV
 split
 ·rfl
 ·simp
theorem locks36 {J : List Lg} {f : Bool} {σ : List O} (hJ : J.length ≤ 1000000) (hl : ∀ x ∈ J, x.2.1.length ≤ 1000000) : FSpec Tryz.prog 36 [jamV J f] σ (locksV J) σ := by
 refine FSpec.frame (σ := σ) ?_ (by simp) locksV_pure
 have h62 := fun σ => open62 (f := f) (l := []) (fl := true) (σ := σ) hJ hl (by simp)
 refine fn36.spec0 mixed noIt_ok ?_
 rw [ic36]
 refine ab_seq_k fun K1 h1 => ?_
 simp
 refine h1 _ _ _ ?_
 clear h1 K1
 refine ab_seq_k fun K2 h2 => ?_
 simp
 refine callK_of (h62 _) ?_
 rcases open_nil (f := f) hl with ⟨hc, ho⟩ | ⟨hc, hJO, ho⟩
 ·have hv : locksV J = .tup [.ss [] 0 true, .i .i64 (checkJ J)] := by unfold locksV; rw [if_pos hc]
  rw [ho]
  simp
  refine h2 _ _ _ ?_
  clear h2 K2
  refine ab_seq_k fun K3 h3 => ?_
  refine ab_seq_k fun K5 h5 => ?_
  simp
  refine h5 _ _ _ ?_
  clear h5 K5
  refine ab_cond_of rfl (fun _ => ?_) (fun h => by simp at h; omega)
  refine ab_seq_k fun K6 h6 => ?_
  simp
  refine h6 _ _ _ ?_
  clear h6 K6
  simp
  refine fin_of 3 ?_
  simp [rs36, hv]
 ·have hN := hJO.2.1
  have hpw := pow12 hN
  have hk := fun σ => locks84F (J := J) (f := f) (σ := σ) hJO
  have hkl := locksTo_len (J := J) (i := 2 ^ J.length)
  have hmem : ∀ s ∈ locksTo J (2 ^ J.length), s < 2 ^ 12 := fun s hs => by
   have := (List.mem_filter.1 hs).1
   rw [List.mem_range] at this
   omega
  have hv : locksV J = .tup [.ss (lv (lexS (locksTo J (2 ^ J.length)))) (locksTo J (2 ^ J.length)).length ((locksTo J (2 ^ J.length)).length == 0), .i .i64 0] := by unfold locksV; rw [if_neg (by simp [hc])]
  have hls := fun f σ => lists76 (L := locksTo J (2 ^ J.length)) (f := f) (σ := σ) hmem (by omega)
  generalize locksTo J (2 ^ J.length) = L at *
  rw [ho]
  simp
  refine h2 _ _ _ ?_
  clear h2 K2
  refine ab_seq_k fun K3 h3 => ?_
  refine ab_seq_k fun K5 h5 => ?_
  simp
  refine h5 _ _ _ ?_
  clear h5 K5
  refine ab_cond_of rfl (fun h => by simp at h) (fun _ => ?_)
  simp
  refine h3 _ _ _ ?_
  clear h3 K3
  refine ab_seq_k fun K7 h7 => ?_
  simp
  refine callK_of (hk _) ?_
  simp
  refine callK_of (hls _ _) ?_
  simp
  refine h7 _ _ _ ?_
  simp
  refine fin_of 3 ?_
  simp [rs36, hv]
end Go.Ab
end
section
namespace Go.Ab
open Go Go.Proofs
theorem ints25F {a b : List Int} {fa fb : Bool} {σ : List O} (ha : (a.length : Int) < 1000000000) : FSpec Tryz.prog 25 [sl a fa, sl b fb] σ (.b (decide (a = b))) σ := FSpec.frame (σ := σ) (ints25 ha) (by simp) rfl
end Go.Ab
end
section
namespace Go.Ab
open Go Go.Proofs
theorem works_run : runY 18 [] = some (.b true, []) := by kernel_rfl
theorem works_ok : FSpec Tryz.prog 18 [] [] (.b true) [] := runY_ok works_run
theorem wk (σ : List O) : FSpec Tryz.prog 18 [] σ (.b true) σ := FSpec.frame works_ok (by simp) rfl
end Go.Ab
end
section
namespace Go.Ab
open Go Go.Proofs
def ic14_0 : IC := (.seq (.seq (.reg [.op (some 65) none (.mov (.t 9)), .op (some 66) none (.fad 0 (.t 3)), .op (some 67) none (.load1 (.t 66)), .op (some 68) none (.mov (.t 7)), .op (some 69) none (.ixs 2 (.t 67) (.t 68)), .op (some 70) none (.fad 1 (.t 69)), .op (some 71) none (.load1 (.t 70)), .op (some 72) none (.len (.t 71)), .op (some 73) none (.bin .lss (.t 65) (.t 72))] (some [2, 3, 5, 6, 7, 8, 9, 73])) (.cond (.t 73) .skip (.exit 2))) (.seq (.block 3 (.drw [(.op (some 76) none (.fad 1 (.t 8)), []), (.op (some 77) none (.load1 (.t 76)), []), (.op (some 78) none (.mov (.t 5)), []), (.op (some 79) none (.fad 0 (.t 3)), []), (.op (some 80) none (.load1 (.t 79)), []), (.op (some 81) none (.mov (.t 7)), []), (.op (some 82) none (.ixs 2 (.t 80) (.t 81)), []), (.op (some 83) none (.fad 1 (.t 82)), []), (.op (some 84) none (.load1 (.t 83)), []), (.op (some 85) none (.mov (.t 9)), []), (.op (some 86) none (.ixs 1 (.t 84) (.t 85)), []), (.op (some 87) none (.load1 (.t 86)), []), (.op (some 88) none (.bin .add (.t 78) (.t 87)), []), (.op (some 89) none (.bsl true 1 1 [(.i .i64 0)] [(0, 1, (.t 88))]), []), (.op (some 90) none (.app 1 8 (.t 77) (.t 89)), []), (.op (some 91) none (.fad 1 (.t 8)), []), (.op none none (.store1 (.t 91) (.t 90)), [])] (some [2, 3, 5, 6, 7, 8, 9]))) (.reg [.op (some 74) none (.mov (.t 9)), .op (some 75) none (.bin .add (.t 74) (.c (.i .i64 1))), .op (some 9) none (.mov (.t 75))] (some [2, 3, 5, 6, 7, 8, 9]))))
def ic14_1 : IC := (.seq (.seq (.reg [.op (some 51) none (.mov (.t 7)), .op (some 52) none (.fad 0 (.t 3)), .op (some 53) none (.load1 (.t 52)), .op (some 54) none (.len (.t 53)), .op (some 55) none (.bin .lss (.t 51) (.t 54))] (some [2, 3, 5, 6, 7, 55])) (.cond (.t 55) .skip (.exit 0))) (.seq (.block 1 (.seq (.reg [.op (some 58) none (.fad 0 (.t 3)), .op (some 59) none (.load1 (.t 58)), .op (some 60) none (.mov (.t 7)), .op (some 61) none (.ixs 2 (.t 59) (.t 60)), .op (some 62) none (.fad 0 (.t 61)), .op (some 63) none (.load1 (.t 62)), .op (some 64) none (.build [(.i .i64 0), (.ss [] 0 true)] [(0, 1, (.t 63))]), .op (some 8) none (.alloc [(.i .i64 0), (.ss [] 0 true)]), .op none none (.storeA 2 (.t 8) (.t 64))] (some [2, 3, 5, 6, 7, 8])) (.seq (.seq (.reg [.op (some 9) none (.mov (.c (.i .i64 0)))] (some [2, 3, 5, 6, 7, 8, 9])) (.block 2 (.loop (some [2, 3, 5, 6, 7, 8, 9]) ic14_0))) (.reg [.op (some 92) none (.fad 0 (.t 6)), .op (some 93) none (.load1 (.t 92)), .op (some 94) none (.loadA 2 (.t 8)), .op (some 95) none (.bsl true 2 1 [(.i .i64 0), (.ss [] 0 true)] [(0, 2, (.t 94))]), .op (some 96) none (.app 2 32 (.t 93) (.t 95)), .op (some 97) none (.fad 0 (.t 6)), .op none none (.store1 (.t 97) (.t 96))] (some [2, 3, 5, 6, 7]))))) (.reg [.op (some 56) none (.mov (.t 7)), .op (some 57) none (.bin .add (.t 56) (.c (.i .i64 1))), .op (some 7) none (.mov (.t 57))] (some [2, 3, 5, 6, 7]))))
def ic14_2 : IC := (.seq (.seq (.reg [.op (some 163) none (.mov (.t 23)), .op (some 164) none (.mov (.t 12)), .op (some 165) none (.len (.t 164)), .op (some 166) none (.bin .lss (.t 163) (.t 165))] (some [5, 12, 14, 22, 23, 166])) (.cond (.t 166) .skip (.exit 4))) (.seq (.block 5 (.reg [.op (some 169) none (.mov (.t 22)), .op (some 170) none (.mov (.t 5)), .op (some 171) none (.mov (.t 12)), .op (some 172) none (.mov (.t 23)), .op (some 173) none (.ixs 1 (.t 171) (.t 172)), .op (some 174) none (.load1 (.t 173)), .op (some 175) none (.bin .add (.t 170) (.t 174)), .op (some 176) none (.bsl true 1 1 [(.i .i64 0)] [(0, 1, (.t 175))]), .op (some 177) none (.app 1 8 (.t 169) (.t 176)), .op (some 22) none (.mov (.t 177))] (some [5, 12, 14, 22, 23]))) (.reg [.op (some 167) none (.mov (.t 23)), .op (some 168) none (.bin .add (.t 167) (.c (.i .i64 1))), .op (some 23) none (.mov (.t 168))] (some [5, 12, 14, 22, 23]))))
def ic14 : IC := (.seq (.reg [.op (some 2) none (.box (.t 0)), .op (some 3) none (.box (.t 1)), .op (some 4) none (.mov (.c (.b false)))] (some [2, 3])) (.seq (.seq (.reg [.op (some 24) none (.loadA 1 (.t 2)), .call (some 25) none 47 [(.t 24)], .op (some 26) none (.not (.t 25)), .op (some 27) none (.mov (.t 26)), .op (some 28) (some (27, false)) (.loadA 1 (.t 3)), .call (some 29) (some (27, false)) 47 [(.t 28)], .op (some 30) (some (27, false)) (.not (.t 29)), .op (some 31) none (.pick (.t 27) (.c (.b true)) (.t 30)), .op (some 32) none (.mov (.t 31)), .op (some 33) (some (32, false)) (.fad 0 (.t 2)), .op (some 34) (some (32, false)) (.load1 (.t 33)), .op (some 35) (some (32, false)) (.len (.t 34)), .op (some 36) (some (32, false)) (.fad 0 (.t 3)), .op (some 37) (some (32, false)) (.load1 (.t 36)), .op (some 38) (some (32, false)) (.len (.t 37)), .op (some 39) (some (32, false)) (.bin .add (.t 35) (.t 38)), .op (some 40) (some (32, false)) (.bin .gtr (.t 39) (.c (.i .i64 12))), .op (some 41) none (.pick (.t 32) (.c (.b true)) (.t 40))] (some [2, 3, 41])) (.cond (.t 41) (.seq (.reg [.call (some 42) none 18 [], .op (some 4) none (.mov (.t 42))] (some [4])) .ret) .skip)) (.seq (.reg [.op (some 43) none (.fad 0 (.t 2)), .op (some 44) none (.load1 (.t 43)), .op (some 45) none (.len (.t 44)), .op (some 5) none (.mov (.t 45))] (some [2, 3, 5])) (.seq (.reg [.op (some 46) none (.bsl true 2 0 [] []), .op (some 47) none (.fad 0 (.t 2)), .op (some 48) none (.load1 (.t 47)), .op (some 49) none (.app 2 32 (.t 46) (.t 48)), .call (some 50) none 54 [(.t 49)], .op (some 6) none (.alloc [(.ss [] 0 true)]), .op none none (.storeA 1 (.t 6) (.t 50))] (some [2, 3, 5, 6])) (.seq (.seq (.reg [.op (some 7) none (.mov (.c (.i .i64 0)))] (some [2, 3, 5, 6, 7])) (.block 0 (.loop (some [2, 3, 5, 6, 7]) ic14_1))) (.seq (.reg [.op (some 99) none (.loadA 1 (.t 2)), .call (some 100) none 29 [(.t 99)], .op (some 98) none (.mov (.t 100)), .op (some 101) none (.ext 0 (.t 98)), .op (some 102) none (.ext 1 (.t 98)), .op (some 10) none (.mov (.t 101)), .op (some 11) none (.mov (.t 102))] (some [2, 3, 5, 6, 10, 11])) (.seq (.reg [.op (some 104) none (.loadA 1 (.t 3)), .call (some 105) none 29 [(.t 104)], .op (some 103) none (.mov (.t 105)), .op (some 106) none (.ext 0 (.t 103)), .op (some 107) none (.ext 1 (.t 103)), .op (some 12) none (.mov (.t 106)), .op (some 13) none (.mov (.t 107))] (some [2, 3, 5, 6, 10, 11, 12, 13])) (.seq (.reg [.op (some 109) none (.loadA 1 (.t 6)), .call (some 110) none 29 [(.t 109)], .op (some 108) none (.mov (.t 110)), .op (some 111) none (.ext 0 (.t 108)), .op (some 112) none (.ext 1 (.t 108)), .op (some 14) none (.mov (.t 111)), .op (some 15) none (.mov (.t 112))] (some [2, 3, 5, 6, 10, 11, 12, 13, 14, 15])) (.seq (.reg [.op (some 114) none (.loadA 1 (.t 2)), .call (some 115) none 36 [(.t 114)], .op (some 113) none (.mov (.t 115)), .op (some 116) none (.ext 0 (.t 113)), .op (some 117) none (.ext 1 (.t 113)), .op (some 16) none (.mov (.t 116)), .op (some 17) none (.mov (.t 117))] (some [3, 5, 6, 10, 11, 12, 13, 14, 15, 16, 17])) (.seq (.reg [.op (some 119) none (.loadA 1 (.t 3)), .call (some 120) none 36 [(.t 119)], .op (some 118) none (.mov (.t 120)), .op (some 121) none (.ext 0 (.t 118)), .op (some 122) none (.ext 1 (.t 118)), .op (some 18) none (.mov (.t 121)), .op (some 19) none (.mov (.t 122))] (some [5, 6, 10, 11, 12, 13, 14, 15, 16, 17, 18, 19])) (.seq (.reg [.op (some 124) none (.loadA 1 (.t 6)), .call (some 125) none 36 [(.t 124)], .op (some 123) none (.mov (.t 125)), .op (some 126) none (.ext 0 (.t 123)), .op (some 127) none (.ext 1 (.t 123)), .op (some 20) none (.mov (.t 126)), .op (some 21) none (.mov (.t 127))] (some [5, 10, 11, 12, 13, 14, 15, 16, 17, 18, 19, 20, 21])) (.seq (.seq (.reg [.op (some 128) none (.mov (.t 11)), .op (some 129) none (.bin .neq (.t 128) (.c (.i .i64 0))), .op (some 130) none (.mov (.t 129)), .op (some 131) (some (130, false)) (.mov (.t 13)), .op (some 132) (some (130, false)) (.bin .neq (.t 131) (.c (.i .i64 0))), .op (some 133) none (.pick (.t 130) (.c (.b true)) (.t 132)), .op (some 134) none (.mov (.t 133)), .op (some 135) (some (134, false)) (.mov (.t 15)), .op (some 136) (some (134, false)) (.bin .neq (.t 135) (.c (.i .i64 0))), .op (some 137) none (.pick (.t 134) (.c (.b true)) (.t 136)), .op (some 138) none (.mov (.t 137)), .op (some 139) (some (138, false)) (.mov (.t 17)), .op (some 140) (some (138, false)) (.bin .neq (.t 139) (.c (.i .i64 0))), .op (some 141) none (.pick (.t 138) (.c (.b true)) (.t 140)), .op (some 142) none (.mov (.t 141)), .op (some 143) (some (142, false)) (.mov (.t 19)), .op (some 144) (some (142, false)) (.bin .neq (.t 143) (.c (.i .i64 0))), .op (some 145) none (.pick (.t 142) (.c (.b true)) (.t 144)), .op (some 146) none (.mov (.t 145)), .op (some 147) (some (146, false)) (.mov (.t 21)), .op (some 148) (some (146, false)) (.bin .neq (.t 147) (.c (.i .i64 0))), .op (some 149) none (.pick (.t 146) (.c (.b true)) (.t 148)), .op (some 150) none (.mov (.t 149)), .op (some 151) (some (150, false)) (.mov (.t 20)), .op (some 152) (some (150, false)) (.len (.t 151)), .op (some 153) (some (150, false)) (.mov (.t 16)), .op (some 154) (some (150, false)) (.len (.t 153)), .op (some 155) (some (150, false)) (.mov (.t 18)), .op (some 156) (some (150, false)) (.len (.t 155)), .op (some 157) (some (150, false)) (.bin .add (.t 154) (.t 156)), .op (some 158) (some (150, false)) (.bin .neq (.t 152) (.t 157)), .op (some 159) none (.pick (.t 150) (.c (.b true)) (.t 158))] (some [5, 10, 12, 14, 159])) (.cond (.t 159) (.seq (.reg [.op (some 4) none (.mov (.c (.b false)))] (some [4])) .ret) .skip)) (.seq (.reg [.op (some 160) none (.bsl true 1 0 [] []), .op (some 161) none (.mov (.t 10)), .op (some 162) none (.app 1 8 (.t 160) (.t 161)), .op (some 22) none (.mov (.t 162))] (some [5, 12, 14, 22])) (.seq (.seq (.reg [.op (some 23) none (.mov (.c (.i .i64 0)))] (some [5, 12, 14, 22, 23])) (.block 4 (.loop (some [5, 12, 14, 22, 23]) ic14_2))) (.seq (.reg [.op (some 178) none (.mov (.t 14)), .op (some 179) none (.mov (.t 22)), .call (some 180) none 25 [(.t 178), (.t 179)], .op (some 181) none (.mov (.t 180)), .call (some 182) (some (181, true)) 18 [], .op (some 183) none (.pick (.t 181) (.t 182) (.c (.b false))), .op (some 4) none (.mov (.t 183))] (some [4])) .ret)))))))))))))))
def rs14 : List IRes := [.tmp 4]
theorem fn14 : Fn_ Tryz.prog 14 Tryz.f14 [] ic14 rs14 := ⟨by kernel_rfl, by decide, by kernel_rfl, by kernel_rfl⟩
theorem twoJ_take {J K : List Lg} {i : Nat} {p : Lg} (h : K[i]? = some p) : lgV (twoJ J (K.take i)) ++ [.i .i64 p.1, sl (p.2.1.map fun x => (J.length : Int) + x) (p.2.1.length == 0)] = lgV (twoJ J (K.take (i + 1))) := by
 unfold twoJ shJ
 rw [List.take_add_one, h, List.map_append, ← List.append_assoc, lgV_append (l := J ++ _)]
 rfl
theorem frzS_row {k n j : Nat} {σ : List O} {o : O} (hj : j < n) (h : σ[j]? = some o) : (frzS k n σ)[j]? = some (frzO k n σ o) := by
 unfold frzS
 rw [List.getElem?_map, List.getElem?_take, if_pos hj, h]
 rfl
theorem frz_box {k id : Nat} {σ : List O} {v w : V} (h : σ[id]? = some (.row 0 [v])) (hw : frz (k + 1) 0 σ v = w) : frz (k + 2) 0 σ (.p id 0 0) = .sp [w] 0 := by
 rw [frz]
 simp only [V.pure, Bool.false_eq_true, if_false, Nat.not_lt_zero, h]
 simp [-frz, hw]
theorem frz_Gk {v : V} {k n m q : Nat} {σ : List O} {cs : List V} (h : Gr k 1 σ v n cs) (hm : m ≤ k) (hp : pureL cs = true) : frz (q + 2) m σ v = .ss cs n (n == 0) := by
 rcases h.cases with ⟨rfl, rfl, rfl⟩ | ⟨id, ver, h0, hid, rfl, hs, hl⟩
 ·rfl
 ·rw [frz_row (k := q) hs (Nat.le_trans hm hid) h.1 hp]
  have : (n == 0) = false := by simpa using h0
  rw [this]
theorem frzO_p {k n ver : Nat} {σ : List O} {cells : List V} (h : pureL cells = true) : frzO (k + 1) n σ (.row ver cells) = .row ver cells := by
 show O.row ver (cells.map (frz (k + 1) n σ)) = _
 rw [map_frz h]
theorem jamBeside {J K : List Lg} {f fk : Bool} {σ : List O} : FSpec Tryz.prog 14 [jamV J f, jamV K fk] σ (.b true) σ := by
 refine FSpec.frame (σ := σ) ?_ (by simp) rfl
 refine fn14.spec0 mixed noIt_ok ?_
 rw [ic14]
 refine ab_seq_k fun K1 h1 => ?_
 simp
 refine h1 _ _ _ ?_
 clear h1 K1
 refine ab_seq_k fun K2 h2 => ?_
 refine ab_seq_k fun K3 h3 => ?_
 simp
 refine callK_of fine47 ?_
 have hK3 : ∀ env c, get env 2 = .p 0 0 0 → get env 3 = .p 1 0 0 → get env 41 = .b c → c = (!fineB J || !fineB K || decide (12 < J.length + K.length)) → K3 (some 0) env [.row 0 [slJ J f], .row 0 [slJ K fk]] := by
  intro env c w2 w3 w41 hc
  refine h3 _ _ _ ?_
  clear h3 K3
  cases c with
  | true =>
   refine ab_cond_of w41 (fun _ => ?_) (fun h => by cases h)
   refine ab_seq_k fun K4 h4 => ?_
   simp
   refine callK_of (wk _) ?_
   simp
   refine h4 _ _ _ ?_
   clear h4 K4
   simp
   exact fin_of 1 (by simp [rs14])
  | false =>
   refine ab_cond_of w41 (fun h => by cases h) (fun _ => ?_)
   have hc' := hc.symm
   rw [Bool.or_eq_false_iff, Bool.or_eq_false_iff, Bool.not_eq_false', Bool.not_eq_false', decide_eq_false_iff_not] at hc'
   obtain ⟨⟨hfJ, hfK⟩, h12⟩ := hc'
   obtain ⟨hJO, hck, hp⟩ := fine_ok hfJ
   obtain ⟨hKO, hckK, hpK⟩ := fine_ok hfK
   have hN := hJO.2.1
   have hN1 := hJO.1
   have hM1 := hKO.1
   have hJ0 : J ≠ [] := by rintro rfl; simp at hN1
   simp [w2, w3]
   refine h2 _ _ _ ?_
   clear h2 K2
   refine ab_seq_k fun K5 h5 => ?_
   simp [w2, w3]
   refine h5 _ _ _ ?_
   clear h5 K5
   refine ab_seq_k fun K6 h6 => ?_
   simp [w2, w3]
   rw [if_neg hJ0]
   refine ⟨by omega, callK_of (jam54' rfl) ?_⟩
   simp
   refine h6 _ _ _ ?_
   clear h6 K6
   refine ab_seq_k fun K7 h7 => ?_
   refine ab_seq_k fun K8 h8 => ?_
   simp [w2, w3]
   refine h8 _ _ _ ?_
   clear h8 K8
   refine ab_block_k fun K9 h9 => ?_
   have hdr0 : twoJ J (K.take 0) = J := by simp [twoJ, shJ]
   refine ab_loop_k (fun m env σ => ∃ i : Nat, i + m = K.length ∧
    ((i < K.length ∧ ∃ ver, env = [(2, .p 0 0 0), (3, .p 1 0 0), (5, .i .i64 J.length), (6, .p 4 0 0), (7, .i .i64 i)] ∧ σ[0]? = some (.row 0 [slJ J f]) ∧ σ[1]? = some (.row 0 [slJ K fk]) ∧ σ[2]? = some (.row ver (lgV (twoJ J (K.take i)))) ∧ σ[4]? = some (.row 0 [.s 2 ver 0 (J.length + i) 2]) ∧ 5 ≤ σ.length) ∨
     (i = K.length ∧ env = [(2, .sp [slJ J f] 0), (3, .sp [slJ K fk] 0), (5, .i .i64 J.length), (6, .sp [slJ (twoJ J K) false] 0), (7, .i .i64 i)] ∧ σ = []))) K.length ⟨0, by omega, .inl ⟨by omega, 0, by simp [w2, w3], rfl, rfl, by rw [hdr0]; rfl, rfl, by simp⟩⟩ ?_
   clear w2 w3 w41 env
   rintro m env σ ⟨i, hi, hcase⟩ K10 h10
   rw [ic14_1]
   refine ab_seq_k fun K11 h11 => ?_
   rcases hcase with ⟨hiK, ver, rfl, s0, s1, s2, s4, s5⟩ | ⟨rfl, rfl, rfl⟩
   ·obtain ⟨hs0, s0'⟩ := List.getElem?_eq_some_iff.1 s0
    obtain ⟨hs1, s1'⟩ := List.getElem?_eq_some_iff.1 s1
    obtain ⟨hs4, s4'⟩ := List.getElem?_eq_some_iff.1 s4
    refine ab_seq_k fun K12 h12 => ?_
    simp [s1, s1', hiK]
    refine h12 _ _ _ ?_
    clear h12 K12
    refine ab_cond_of rfl (fun _ => ?_) (fun h => by simp [hiK] at h)
    obtain ⟨p, hpi, hpm, hle, g1, g2⟩ := lg_at hiK
    obtain ⟨hg1, g1'⟩ := List.getElem?_eq_some_iff.1 g1
    obtain ⟨hg2, g2'⟩ := List.getElem?_eq_some_iff.1 g2
    have hpl := (hpK p hpm).2.2
    have hpb := isLF_mem (hpK p hpm).1
    have hst := twoJ_take (J := J) hpi
    simp
    refine h11 _ _ _ ?_
    clear h11 K11
    refine ab_seq_k fun K13 h13 => ?_
    refine ab_block_k fun K14 h14 => ?_
    have happ : ∀ (g : O), (σ ++ [g])[1]? = some (.row 0 [slJ K fk]) := fun g => app_get s1
    refine ab_seq_k fun K15 h15 => ?_
    simp [s1, s1', hiK, hle, g1, g1']
    refine h15 _ _ _ ?_
    clear h15 K15
    have t0 := app_get (g := [O.row 0 [V.i .i64 p.1, .ss [] 0 true]]) s0
    have t1 := app_get (g := [O.row 0 [V.i .i64 p.1, .ss [] 0 true]]) s1
    have t2 := app_get (g := [O.row 0 [V.i .i64 p.1, .ss [] 0 true]]) s2
    have t4 := app_get (g := [O.row 0 [V.i .i64 p.1, .ss [] 0 true]]) s4
    have tL : (σ ++ [O.row 0 [V.i .i64 p.1, .ss [] 0 true]])[σ.length]? = some (O.row 0 [V.i .i64 p.1, .ss [] 0 true]) := by simp
    clear s0 s1 s2 s4 s0' s1' s4' hs0 hs1 hs4 happ
    generalize σ ++ [O.row 0 [V.i .i64 p.1, .ss [] 0 true]] = U at *
    generalize hLd : σ.length = L at *
    clear hLd σ
    refine ab_seq_k fun K16 h16 => ?_
    refine ab_seq_k fun K17 h17 => ?_
    simp
    refine h17 _ _ _ ?_
    clear h17 K17
    refine ab_block_k fun K18 h18 => ?_
    refine ab_loop_k (fun m env σ => ∃ (j : Nat) (w : V), j + m = p.2.1.length ∧ env = [(2, .p 0 0 0), (3, .p 1 0 0), (5, .i .i64 J.length), (6, .p 4 0 0), (7, .i .i64 i), (8, .p L 0 0), (9, .i .i64 j)] ∧ σ[0]? = some (.row 0 [slJ J f]) ∧ σ[1]? = some (.row 0 [slJ K fk]) ∧ σ[2]? = some (.row ver (lgV (twoJ J (K.take i)))) ∧ σ[4]? = some (.row 0 [.s 2 ver 0 (J.length + i) 2]) ∧ σ[L]? = some (.row 0 [.i .i64 p.1, w]) ∧ Gr (L + 1) 1 σ w j (ints ((p.2.1.take j).map fun x => (J.length : Int) + x))) p.2.1.length
     ⟨0, .ss [] 0 true, by omega, by simp, t0, t1, t2, t4, tL, by simpa [ints] using Gr.nil⟩ ?_
    clear t0 t1 t2 t4 tL U
    rintro m2 env σ ⟨j, w, hj, rfl, t0, t1, t2, t4, tL, hw⟩ K19 h19
    obtain ⟨ht0, t0'⟩ := List.getElem?_eq_some_iff.1 t0
    obtain ⟨ht1, t1'⟩ := List.getElem?_eq_some_iff.1 t1
    obtain ⟨ht2, t2'⟩ := List.getElem?_eq_some_iff.1 t2
    obtain ⟨ht4, t4'⟩ := List.getElem?_eq_some_iff.1 t4
    obtain ⟨htL, tL'⟩ := List.getElem?_eq_some_iff.1 tL
    rw [ic14_0]
    refine ab_seq_k fun K20 h20 => ?_
    refine ab_seq_k fun K21 h21 => ?_
    simp [t1, t1', hiK, hle, g2, g2']
    refine h21 _ _ _ ?_
    clear h21 K21
    refine ab_cond_of rfl (fun hc2 => ?_) (fun hc2 => ?_)
    ·have hjl : j < p.2.1.length := by simp at hc2; omega
     obtain ⟨b1, b2, bm⟩ := getD_get hjl
     have hb0 := hpb _ bm
     have htk : (p.2.1.take (j + 1)).map (fun x => (J.length : Int) + x) = (p.2.1.take j).map (fun x => (J.length : Int) + x) ++ [(J.length : Int) + p.2.1.getD j 0] := by rw [List.take_add_one, b1]; simp
     generalize p.2.1.getD j 0 = y at *
     simp
     refine h20 _ _ _ ?_
     clear h20 K20
     refine ab_seq_k fun K22 h22 => ?_
     refine ab_block_k fun K23 h23 => ?_
     simp [abDs_consU, drU, recheck_cons, recheck_nil, rcK, IS.dst, t1, t1', tL, tL', hiK, hle, g2, g2', hjl, b1, b2, wrap64 (x := (J.length : Int) + y) (by omega) (by omega)]
     refine appG hw (by omega) (by omega) (by omega) rfl ?_
     intro w' σ' hw' hgr
     have hbid : ∀ q, q < L + 1 → idOf w ≠ some q := fun q hq e => by have := (hw.id_ge e).1; omega
     have u0 := hgr.get (hbid 0 (by omega)) t0
     have u1 := hgr.get (hbid 1 (by omega)) t1
     have u2 := hgr.get (hbid 2 (by omega)) t2
     have u4 := hgr.get (hbid 4 (by omega)) t4
     have uL := hgr.get (hbid L (by omega)) tL
     obtain ⟨huL, uL'⟩ := List.getElem?_eq_some_iff.1 uL
     simp [abDs_consU, drU, recheck_cons, recheck_nil, rcK, IS.dst, uL, uL', hw'.one]
     refine h23 _ _ _ (h22 _ _ _ ?_)
     simp [wrap64 (x := (j : Int) + 1) (by omega) (by omega)]
     refine h19 _ _ _ (again (m2 - 1) (by omega) ⟨j + 1, w', by omega, by simp, ?_, ?_, ?_, ?_, List.getElem?_set_self huL, ?_⟩)
     ·rw [List.getElem?_set_ne (by omega)]; exact u0
     ·rw [List.getElem?_set_ne (by omega)]; exact u1
     ·rw [List.getElem?_set_ne (by omega)]; exact u2
     ·rw [List.getElem?_set_ne (by omega)]; exact u4
     ·rw [htk, ints_app]
      exact hw'.setlt (by omega)
    ·have hjl : j = p.2.1.length := by simp at hc2; omega
     subst hjl
     rw [List.take_length] at hw
     simp
     refine h18 _ _ _ (h16 _ _ _ ?_)
     clear h16 h18 h19 h20
     have htl : (lgV (twoJ J (K.take i))).length = (J.length + i) * 2 := by simp; omega
     simp [t4, t4', t2, t2', tL, tL', hw.one]
     refine ⟨by omega, by omega, h14 _ _ _ (h13 _ _ _ ?_)⟩
     simp [wrap64 (x := (i : Int) + 1) (by omega) (by omega)]
     have x0 : ((σ.set 2 (O.row (ver + 1) (lgV (twoJ J (K.take i)) ++ [V.i .i64 p.1, w]))).set 4 (O.row 0 [V.s 2 (ver + 1) 0 (J.length + i + 1) 2]))[0]? = some (.row 0 [slJ J f]) := by rw [List.getElem?_set_ne (by omega), List.getElem?_set_ne (by omega)]; exact t0
     have x1 : ((σ.set 2 (O.row (ver + 1) (lgV (twoJ J (K.take i)) ++ [V.i .i64 p.1, w]))).set 4 (O.row 0 [V.s 2 (ver + 1) 0 (J.length + i + 1) 2]))[1]? = some (.row 0 [slJ K fk]) := by rw [List.getElem?_set_ne (by omega), List.getElem?_set_ne (by omega)]; exact t1
     have x2 : ((σ.set 2 (O.row (ver + 1) (lgV (twoJ J (K.take i)) ++ [V.i .i64 p.1, w]))).set 4 (O.row 0 [V.s 2 (ver + 1) 0 (J.length + i + 1) 2]))[2]? = some (O.row (ver + 1) (lgV (twoJ J (K.take i)) ++ [V.i .i64 p.1, w])) := by rw [List.getElem?_set_ne (by omega)]; exact List.getElem?_set_self ht2
     have x4 : ((σ.set 2 (O.row (ver + 1) (lgV (twoJ J (K.take i)) ++ [V.i .i64 p.1, w]))).set 4 (O.row 0 [V.s 2 (ver + 1) 0 (J.length + i + 1) 2]))[4]? = some (O.row 0 [V.s 2 (ver + 1) 0 (J.length + i + 1) 2]) := List.getElem?_set_self (by simpa using ht4)
     have xw := (hw.setlt (i := 2) (o := O.row (ver + 1) (lgV (twoJ J (K.take i)) ++ [V.i .i64 p.1, w])) (by omega)).setlt (i := 4) (o := O.row 0 [V.s 2 (ver + 1) 0 (J.length + i + 1) 2]) (by omega)
     have xl : ((σ.set 2 (O.row (ver + 1) (lgV (twoJ J (K.take i)) ++ [V.i .i64 p.1, w]))).set 4 (O.row 0 [V.s 2 (ver + 1) 0 (J.length + i + 1) 2])).length = σ.length := by simp
     generalize (σ.set 2 (O.row (ver + 1) (lgV (twoJ J (K.take i)) ++ [V.i .i64 p.1, w]))).set 4 (O.row 0 [V.s 2 (ver + 1) 0 (J.length + i + 1) 2]) = X at *
     have hcells : ∀ (q n : Nat), n ≤ L + 1 → (lgV (twoJ J (K.take i)) ++ [V.i .i64 p.1, w]).map (frz (q + 2) n X) = lgV (twoJ J (K.take (i + 1))) := fun q n hn => by
      rw [List.map_append, map_frz (k := q + 1) pure_lgV, ← hst]
      simp only [List.map_cons, List.map_nil]
      rw [frz_Gk xw hn (by simp), frz_pure (k := q + 1) rfl]
      simp [sl]
     by_cases hend : i + 1 < K.length
     ·refine h10 _ _ _ (againF (m - 1) 3 5 (by omega) (Nat.zero_le _) (by omega) ⟨i + 1, by omega, .inl ⟨hend, ver + 1, ?_, ?_, ?_, ?_, ?_, ?_⟩⟩)
      ·simp [frzE]
      ·rw [frzS_row (by omega) x0, frzO_p (by simp)]
      ·rw [frzS_row (by omega) x1, frzO_p (by simp)]
      ·rw [frzS_row (by omega) x2]
       show some (O.row (ver + 1) ((lgV (twoJ J (K.take i)) ++ [V.i .i64 p.1, w]).map (frz 3 5 X))) = _
       rw [hcells 1 5 (by omega)]
      ·rw [frzS_row (by omega) x4]
       show some (O.row 0 [frz 3 5 X (V.s 2 (ver + 1) 0 (J.length + i + 1) 2)]) = _
       simp [frz, Nat.add_assoc]
      ·unfold frzS
       simp
       omega
     ·have hend2 : i + 1 = K.length := by omega
      have hf0 : frz 5 0 X (.p 0 0 0) = .sp [slJ J f] 0 := frz_box (k := 3) x0 (frz_pure (by simp))
      have hf1 : frz 5 0 X (.p 1 0 0) = .sp [slJ K fk] 0 := frz_box (k := 3) x1 (frz_pure (by simp))
      have hfs : frz 4 0 X (.s 2 (ver + 1) 0 (J.length + i + 1) 2) = slJ (twoJ J K) false := by
       rw [frz]
       simp only [V.pure, Bool.false_eq_true, if_false, Nat.not_lt_zero, x2]
       rw [if_pos ⟨trivial, by simp; omega⟩]
       rw [List.drop_zero, List.take_of_length_le (by simp; omega)]
       have := hcells 1 0 (by omega)
       rw [show 1 + 2 = 3 from rfl, hend2, List.take_length] at this
       rw [this]
       simp [slJ, Nat.add_assoc, hend2]
      have hf4 : frz 5 0 X (.p 4 0 0) = .sp [slJ (twoJ J K) false] 0 := frz_box (k := 3) x4 hfs
      refine h10 _ _ _ (againF (m - 1) 5 0 (by omega) (Nat.le_refl _) (Nat.zero_le _) ⟨i + 1, by omega, .inr ⟨hend2, ?_, frzS_zero⟩⟩)
      simp only [frzE, List.map_cons, List.map_nil, hf0, hf1, hf4]
      simp
   ·refine ab_seq_k fun K40 h40 => ?_
    simp
    refine h40 _ _ _ ?_
    clear h40 K40
    refine ab_cond_of rfl (fun h => by simp at h) (fun _ => ?_)
    simp
    refine h9 _ _ _ (h7 _ _ _ ?_)
    clear h7 h9 h10 h11
    have hcJ : ∀ x ∈ J, isL J.length x.2.1 = true := fun x h => (hp x h).1
    have hcK : ∀ x ∈ K, isL K.length x.2.1 = true := fun x h => (hpK x h).1
    have hM := hKO.2.1
    have l12 : J.length + K.length ≤ 12 := by omega
    have hckS := two_check (fun x h => ⟨(hp x h).1, (hp x h).2.1⟩) (fun x h => ⟨(hpK x h).1, (hpK x h).2.1⟩) hN1 l12
    have hJl : ∀ x ∈ J, x.2.1.length ≤ 1000000 := fun x hx => by have := (hp x hx).2.2; omega
    have hKl : ∀ x ∈ K, x.2.1.length ≤ 1000000 := fun x hx => by have := (hpK x hx).2.2; omega
    have hSl : ∀ x ∈ twoJ J K, x.2.1.length ≤ 1000000 := fun x hx => by
     rcases List.mem_append.1 hx with h | h
     ·exact hJl x h
     ·obtain ⟨y, hy, rfl⟩ := List.mem_map.1 h
      have := hKl y hy
      simpa using this
    have r29 : ∀ (Q : List Lg) (fq : Bool), Q.length ≤ 12 → checkJ Q = 0 → (∀ x ∈ Q, x.2.1.length ≤ 1000000) → ∀ σ, FSpec Tryz.prog 29 [jamV Q fq] σ (.tup [sl (bl (few0 Q) 12) ((bl (few0 Q) 12).length == 0), .i .i64 0]) σ := fun Q fq h1 h2 h3 σ => by
     have := fewest29 (f := fq) (σ := σ) (by omega : Q.length ≤ 1000000) h3
     have hv : fewV Q = .tup [sl (bl (few0 Q) 12) ((bl (few0 Q) 12).length == 0), .i .i64 0] := by unfold fewV; rw [if_neg (fun h => h h2)]; rfl
     rwa [hv] at this
    have r36 : ∀ (Q : List Lg) (fq : Bool), Q.length ≤ 12 → checkJ Q = 0 → (∀ x ∈ Q, x.2.1.length ≤ 1000000) → ∀ σ, FSpec Tryz.prog 36 [jamV Q fq] σ (.tup [.ss (lv (lexS (locksTo Q (2 ^ Q.length)))) (locksTo Q (2 ^ Q.length)).length ((locksTo Q (2 ^ Q.length)).length == 0), .i .i64 0]) σ := fun Q fq h1 h2 h3 σ => by
     have := locks36 (f := fq) (σ := σ) (by omega : Q.length ≤ 1000000) h3
     have hv : locksV Q = .tup [.ss (lv (lexS (locksTo Q (2 ^ Q.length)))) (locksTo Q (2 ^ Q.length)).length ((locksTo Q (2 ^ Q.length)).length == 0), .i .i64 0] := by unfold locksV; rw [if_neg (fun h => h h2)]
     rwa [hv] at this
    have a29 := r29 J f hN hck hJl
    have b29 := r29 K fk hM hckK hKl
    have c29 := r29 (twoJ J K) false (by simpa using l12) hckS hSl
    have a36 := r36 J f hN hck hJl
    have b36 := r36 K fk hM hckK hKl
    have c36 := r36 (twoJ J K) false (by simpa using l12) hckS hSl
    have hcnt := two_count hcJ hcK l12
    have hfew := two_few hcJ hcK l12
    obtain ⟨a1, -⟩ := few0_left (J := J) hN
    obtain ⟨b1, -⟩ := few0_left (J := K) hM
    have hbl : bl (few0 (twoJ J K)) 12 = bl (few0 J) 12 ++ (bl (few0 K) 12).map fun x => (J.length : Int) + x := by
     rw [hfew, bl_two (two_lt a1 b1) l12, lo_two a1, hi_two a1]
    rw [twoJ_len] at c36
    have hla := locksTo_len (J := J) (i := 2 ^ J.length)
    have hlb := locksTo_len (J := K) (i := 2 ^ K.length)
    have hpwJ := pow12 hN
    have hpwK := pow12 hM
    have hAl := bl_len (s := few0 J) (k := 12)
    have hBl := bl_len (s := few0 K) (k := 12)
    have hBm : ∀ x ∈ bl (few0 K) 12, 0 ≤ x ∧ x < 12 := fun x hx => by
     obtain ⟨j, hj, rfl, -⟩ := bl_mem.1 hx
     omega
    rw [hbl] at c29
    have hCl : (bl (few0 J) 12 ++ (bl (few0 K) 12).map fun x => (J.length : Int) + x).length ≤ 24 := by simp; omega
    clear r29 r36 hbl hfew
    generalize bl (few0 J) 12 = A at *
    generalize bl (few0 K) 12 = B at *
    generalize (locksTo J (2 ^ J.length)).length = nJ at *
    generalize (locksTo K (2 ^ K.length)).length = nK at *
    generalize (locksTo (twoJ J K) (2 ^ (J.length + K.length))).length = nS at *
    generalize lexS (locksTo J (2 ^ J.length)) = LJ at *
    generalize lexS (locksTo K (2 ^ K.length)) = LK at *
    generalize lexS (locksTo (twoJ J K) (2 ^ (J.length + K.length))) = LS at *
    generalize hW : A ++ B.map (fun x => (J.length : Int) + x) = W at *
    refine ab_seq_k fun K41 h41 => ?_
    simp
    refine callK_of (a29 _) ?_
    simp
    refine h41 _ _ _ ?_
    clear h41 K41
    refine ab_seq_k fun K42 h42 => ?_
    simp
    refine callK_of (b29 _) ?_
    simp
    refine h42 _ _ _ ?_
    clear h42 K42
    refine ab_seq_k fun K43 h43 => ?_
    simp
    refine callK_of (c29 _) ?_
    simp
    refine h43 _ _ _ ?_
    clear h43 K43
    refine ab_seq_k fun K44 h44 => ?_
    simp
    refine callK_of (a36 _) ?_
    simp
    refine h44 _ _ _ ?_
    clear h44 K44
    refine ab_seq_k fun K45 h45 => ?_
    simp
    refine callK_of (b36 _) ?_
    simp
    refine h45 _ _ _ ?_
    clear h45 K45
    refine ab_seq_k fun K46 h46 => ?_
    simp
    refine callK_of (c36 _) ?_
    simp
    refine h46 _ _ _ ?_
    clear h46 K46
    refine ab_seq_k fun K47 h47 => ?_
    have hnn : (nS : Int) = (nJ : Int) + nK := by omega
    refine ab_seq_k fun K48 h48 => ?_
    simp [wrap64 (x := (nJ : Int) + nK) (by omega) (by omega), hnn]
    refine h48 _ _ _ ?_
    clear h48 K48
    refine ab_cond_of rfl (fun h => by simp at h) (fun _ => ?_)
    simp
    refine h47 _ _ _ ?_
    clear h47 K47
    refine ab_seq_k fun K49 h49 => ?_
    have hK49 : ∀ env v σ, get env 5 = .i .i64 J.length → get env 12 = sl B (B.length == 0) → get env 14 = sl W (W.length == 0) → get env 22 = v → Gr 0 1 σ v A.length (ints A) → K49 (some 0) env σ := by
     intro env v σ w5 w12 w14 w22 hv
     refine h49 _ _ _ ?_
     clear h49 K49
     refine ab_seq_k fun K50 h50 => ?_
     refine ab_seq_k fun K51 h51 => ?_
     simp [w5, w12, w14, w22]
     refine h51 _ _ _ ?_
     clear h51 K51
     refine ab_block_k fun K52 h52 => ?_
     refine ab_loop_k (fun m env σ => ∃ (i : Nat) (v : V), i + m = B.length ∧ env = [(5, .i .i64 J.length), (12, sl B (B.length == 0)), (14, sl W (W.length == 0)), (22, v), (23, .i .i64 i)] ∧ Gr 0 1 σ v (A.length + i) (ints (A ++ (B.take i).map fun x => (J.length : Int) + x))) B.length ⟨0, v, by omega, by simp [w5, w12, w14, w22], by simpa using hv⟩ ?_
     clear hv w5 w12 w14 w22 env v σ
     rintro m env σ ⟨i, v, hi, rfl, hv⟩ K53 h53
     rw [ic14_2]
     refine ab_seq_k fun K54 h54 => ?_
     refine ab_seq_k fun K55 h55 => ?_
     simp
     refine h55 _ _ _ ?_
     clear h55 K55
     refine ab_cond_of rfl (fun hc1 => ?_) (fun hc1 => ?_)
     ·have hil : i < B.length := by simp at hc1; omega
      obtain ⟨b1, b2, bm⟩ := getD_get hil
      have hb0 := hBm _ bm
      have htk : (B.take (i + 1)).map (fun x => (J.length : Int) + x) = (B.take i).map (fun x => (J.length : Int) + x) ++ [(J.length : Int) + B.getD i 0] := by rw [List.take_add_one, b1]; simp
      generalize B.getD i 0 = y at *
      simp
      refine h54 _ _ _ ?_
      clear h54 K54
      refine ab_seq_k fun K56 h56 => ?_
      refine ab_block_k fun K57 h57 => ?_
      simp [hil, b1, b2, wrap64 (x := (J.length : Int) + y) (by omega) (by omega)]
      refine appG hv (Nat.zero_le _) (by omega) (by omega) rfl ?_
      intro v' σ' hv' hgr
      simp
      refine h57 _ _ _ (h56 _ _ _ ?_)
      simp [wrap64 (x := (i : Int) + 1) (by omega) (by omega)]
      refine h53 _ _ _ (again (m - 1) (by omega) ⟨i + 1, v', by omega, by simp, ?_⟩)
      rw [htk, ← List.append_assoc, ints_app]
      exact hv'
     ·have hil : i = B.length := by simp at hc1; omega
      subst hil
      rw [List.take_length, hW] at hv
      have q25 : FSpec Tryz.prog 25 [sl W (W.length == 0), v] σ (.b true) σ := by
       refine FSpec.frozen 2 ?_ rfl
       simp only [List.map_cons, List.map_nil]
       have hwl : A.length + B.length = W.length := by rw [← hW]; simp
       rw [hwl] at hv
       rw [frz_pure (by simp), frz_G hv (by simp)]
       have := ints25F (a := W) (b := W) (fa := W.length == 0) (fb := W.length == 0) (σ := []) (by omega)
       simpa [sl] using this
      simp
      refine h52 _ _ _ (h50 _ _ _ ?_)
      refine ab_seq_k fun K58 h58 => ?_
      simp
      refine callK_of q25 ?_
      simp
      refine callK_of (wk _) ?_
      simp
      refine h58 _ _ _ ?_
      simp
      exact fin_of 1 (by simp [rs14])
    clear h49
    by_cases hA0 : A = []
    ·subst hA0
     simp
     exact hK49 _ _ _ rfl rfl rfl rfl (by simpa [ints] using Gr.nil)
    ·have hA1 : 0 < A.length := List.length_pos_iff.2 hA0
     simp
     rw [if_neg hA0]
     refine ⟨by omega, hK49 _ _ _ rfl rfl rfl rfl ⟨by simp, .inr ⟨by omega, 0, 0, Nat.le_refl _, rfl, by simp⟩⟩⟩
 clear h2 h3
 cases hgJ : fineB J with
 | false =>
  simp
  exact hK3 _ true rfl rfl rfl (by simp [hgJ])
 | true =>
  simp
  refine callK_of fine47 ?_
  cases hgK : fineB K with
  | false =>
   simp
   exact hK3 _ true rfl rfl rfl (by simp [hgJ, hgK])
  | true =>
   obtain ⟨hJO, -, -⟩ := fine_ok hgJ
   obtain ⟨hKO, -, -⟩ := fine_ok hgK
   have hN := hJO.2.1
   have hM := hKO.2.1
   simp [wrap64 (x := (J.length : Int) + K.length) (by omega) (by omega)]
   exact hK3 _ _ rfl rfl rfl (by
    rw [hgJ, hgK]
    simp
    omega)
end Go.Ab
end
