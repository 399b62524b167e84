/- Rule, of the program. -/
import Derived.Test.YtkcfknlpdfgjnaaLS
set_option linter.unusedVariables false
set_option linter.unusedSimpArgs false
set_option maxHeartbeats 4000000
namespace Go.Ab
open Go Go.Proofs

theorem sortG {k g : Nat} {l : List Int} {σ : List O} {v : V} {cap : List V} {c : Int → Int → Int} {lt : Int → Int → Bool} {C : Ct} (hv : Gr k 1 σ v l.length (ints l)) (hl : l.length ≤ 12) (hlt : ∀ a b, lt a b = decide (c a b < 0))
    (hg : ∀ (a b : Int) (l' : List Int) (id ver : Nat), k ≤ id → a ∈ l → b ∈ l → FSpec Try.prog g ([.i .i64 a, .i .i64 b] ++ cap) (σ.set id (.row ver (ints l'))) (.i .i64 (c a b)) (σ.set id (.row ver (ints l'))))
    (hC : ∀ σ', Gr k 1 σ' v l.length (ints (sortB lt l)) → (∀ j, idOf v ≠ some j → σ'[j]? = σ[j]?) → σ'.length = σ.length → C (.tup []) σ') : callK Try.prog 62 [v, .f (.func g) [] cap] σ C := by
  have h' := hv.cases
  rcases h' with ⟨h1, h2, rfl⟩ | ⟨id, ver, hn, hid, rfl, hs, hidl⟩
  · have hl0 : l = [] := List.eq_nil_of_length_eq_zero h1
    subst hl0
    refine callK_of (sort62 (n := 0) (by omega) (fun C h => lenI hv.sli h) sort84_nil (Nat.le_refl _)) ?_
    exact hC _ hv (fun _ _ => rfl) rfl
  · refine callK_of (sort62 (n := l.length) hl (fun C h => lenI hv.sli h) (sort_ok hs hl (by omega) hlt (fun a b l' ha hb => hg a b l' id ver hid ha hb)) (by simp)) ?_
    refine hC _ ⟨by simp [sortB_len], .inr ⟨hn, id, ver, hid, rfl, List.getElem?_set_self hidl⟩⟩ (fun j hj => List.getElem?_set_ne (fun e => hj (by rw [← e]; rfl))) (by simp)

theorem upsL_succ {T : Tw} {i : Nat} : upsL T (i + 1) = if upP T i = true then upsL T i ++ [(i : Int)] else upsL T i := by
  unfold upsL
  rw [upTo_succ, List.filter_append]
  split <;> rename_i h <;> simp [h]
theorem dnsL_succ {T : Tw} {i : Nat} : dnsL T (i + 1) = if upP T i = true then dnsL T i else dnsL T i ++ [(i : Int)] := by
  unfold dnsL
  rw [upTo_succ, List.filter_append]
  split <;> rename_i h <;> simp [h]
theorem ups_len {T : Tw} {i : Nat} : (upsL T i).length + (dnsL T i).length = i := by
  induction i with
  | zero => rfl
  | succ i ih =>
    rw [upsL_succ, dnsL_succ]
    split <;> simp <;> omega
theorem splice_at {pre Z l : List Int} (hl : l.length ≤ Z.length) : splice (ints (pre ++ Z)) pre.length (ints l) = ints (pre ++ (l ++ Z.drop l.length)) := by
  unfold splice
  have h1 : (ints (pre ++ Z)).take pre.length = ints pre := by simp [ints, List.map_append]
  have h2 : (ints (pre ++ Z)).drop (pre.length + l.length) = ints (Z.drop l.length) := by
    simp [ints, List.map_append, List.drop_append, List.map_drop]
  simp [ints, List.map_drop] at h1 h2 ⊢
  rw [List.drop_append]
  simp
theorem cpyG {k n2 il kk : Nat} {σ : List O} {v : V} {l pre Z : List Int} {C : Ct} (hv : Gr kk 1 σ v l.length (ints l)) (hr : σ[il]? = some (.row 0 (ints (pre ++ Z)))) (hk : pre.length = k) (hZ : Z.length = n2) (hl : l.length ≤ n2)
    (hC : C (.i .i64 l.length) (σ.set il (.row 0 (ints (pre ++ (l ++ Z.drop l.length)))))) : cpyK 1 (.s il 0 k n2 1) v σ C := by
  have hmin : min l.length n2 = l.length := by omega
  have hsp := splice_at (pre := pre) (Z := Z) (l := l) (by omega)
  rw [hk] at hsp
  have key : ∀ K : Ct, rowOf 1 v σ (fun ys m => ys = ints l ∧ m = l.length) → (K (.i .i64 l.length) (σ.set il (.row 0 (ints (pre ++ (l ++ Z.drop l.length)))))) → cpyK 1 (.s il 0 k n2 1) v σ K := by
    intro K h1 h2
    unfold cpyK rowOf at *
    have ht : (ints l).take (l.length * 1) = ints l := List.take_of_length_le (by simp)
    have hlen : k + n2 * 1 ≤ (ints (pre ++ Z)).length := by simp; omega
    split at h1
    · obtain ⟨a, rfl, rfl⟩ := h1
      refine ⟨a, ?_⟩
      simp only [hr, hmin, ht, hsp]
      exact ⟨trivial, trivial, hlen, h2⟩
    · split at h1
      · obtain ⟨a1, a2, a3, a4, rfl⟩ := h1
        refine ⟨a1, a2, a3, ?_⟩
        simp only [hr, hmin, a4, ht, hsp]
        exact ⟨trivial, trivial, hlen, h2⟩
      · cases h1
    · cases h1
  refine key C ?_ hC
  rcases hv.cases with ⟨h1, h2, rfl⟩ | ⟨id, ver, hn, hid, rfl, hs, hidl⟩
  · have hl0 : l = [] := List.eq_nil_of_length_eq_zero h1
    subst hl0
    simp [rowOf, ints]
  · simp only [rowOf, hs]
    refine ⟨trivial, trivial, by simp, ?_, trivial⟩
    rw [List.drop_zero]
    exact List.take_of_length_le (by simp)
theorem prgRule {T : Tw} {ft : Bool} {room : Int} (hl : (T.length : Int) < 1000000000) : FSpec Try.prog 32 [towV T ft room] [] (ruleP T room) [] := by
  refine fn32.spec0 mixed noIt_ok ?_
  rw [ic32]
  refine ab_seq_k fun K1 h1 => ?_
  simp
  refine h1 _ _ _ ?_
  clear h1 K1
  by_cases hct0 : checkTow T room = 0
  · obtain ⟨n1, n7, tb, r0, r7⟩ := tow_len hct0
    refine ab_seq_k fun K2 h2 => ?_
    simp [take_towC]
    refine callK_of (open_ok hl hct0) ?_
    simp [take_towC]
    refine h2 _ _ _ ?_
    clear h2 K2
    refine ab_seq_k fun K3 h3 => ?_
    refine ab_seq_k fun K4 h4 => ?_
    simp
    refine h4 _ _ _ ?_
    clear h4 K4
    refine ab_cond_of rfl (fun h => by cases h) (fun _ => ?_)
    simp
    refine h3 _ _ _ ?_
    clear h3 K3
    have c0 : (canC T ft room zer7 zer7)[0]? = some (slL T ft) := canC_get0
    refine ab_seq_k fun K5 h5 => ?_
    simp
    refine h5 _ _ _ ?_
    clear h5 K5
    refine ab_seq_k fun K6 h6 => ?_
    refine ab_seq_k fun K7 h7 => ?_
    simp [c0]
    refine h7 _ _ _ ?_
    clear h7 K7
    refine ab_block_k fun K8 h8 => ?_
    refine ab_loop_k (fun m env σ => ∃ (i : Nat) (v w : V), i + m = T.length ∧ env = [(1, .p 0 0 0), (6, v), (7, w), (23, slL T ft), (24, .i .i64 T.length), (25, .i .i64 i)] ∧ 3 ≤ σ.length ∧ σ[0]? = some (.row 0 (towC T ft room)) ∧
        Gr 3 1 σ v (upsL T i).length (ints (upsL T i)) ∧ Gr 3 1 σ w (dnsL T i).length (ints (dnsL T i)) ∧ Dj v w) T.length ⟨0, _, _, by omega, by simp, by simp, rfl, Gr.nil, Gr.nil, fun j h => by cases h⟩ ?_
    rintro m env σ ⟨i, v, w, hi, rfl, hσ3, hs0, hv, hw, hd⟩ K9 h9
    rw [ic32_0]
    refine ab_seq_k fun K10 h10 => ?_
    simp
    refine h10 _ _ _ ?_
    clear h10 K10
    refine ab_seq_k fun K11 h11 => ?_
    refine ab_cond_of rfl (fun hc => ?_) (fun hc => ?_)
    · have hil : i < T.length := by simpa using hc
      obtain ⟨p, hp⟩ : ∃ p, T[i]? = some p := ⟨_, List.getElem?_eq_getElem hil⟩
      obtain ⟨z1, z2, z3⟩ := lsV_get hp
      have hm2 : min 2 (T.length * 2 - i * 2) = 2 := by omega
      have hle : i * 2 + 2 ≤ T.length * 2 := by omega
      have hpr : raft T (i : Int) = p := by simp [raft, List.getD_eq_getElem?_getD, hp]
      have hup : upP T (i : Int) = decide (p.1 ≤ p.2) := by unfold upP; rw [hpr]
      have e1 := upsL_succ (T := T) (i := i)
      have e2 := dnsL_succ (T := T) (i := i)
      have hl12 := ups_len (T := T) (i := i)
      simp
      refine h11 _ _ _ ?_
      clear h11 K11
      refine ab_seq_k fun K12 h12 => ?_
      refine ab_block_k fun K13 h13 => ?_
      have hend : ∀ env σ' v' w', get env 1 = .p 0 0 0 → get env 6 = v' → get env 7 = w' → get env 23 = slL T ft → get env 24 = .i .i64 T.length → get env 25 = .i .i64 i → 3 ≤ σ'.length → σ'[0]? = some (.row 0 (towC T ft room)) →
          Gr 3 1 σ' v' (upsL T (i + 1)).length (ints (upsL T (i + 1))) → Gr 3 1 σ' w' (dnsL T (i + 1)).length (ints (dnsL T (i + 1))) → Dj v' w' → K13 (some 0) env σ' := by
        intro env σ' v' w' w1 w6 w7 w23 w24 w25 a1 a2 a3 a4 a5
        refine h13 _ _ _ ?_
        refine h12 _ _ _ ?_
        simp [w1, w6, w7, w23, w24, w25, wrap64 (x := (i : Int) + 1) (by omega) (by omega)]
        exact h9 _ _ _ (again (m - 1) (by omega) ⟨i + 1, v', w', by omega, by simp, a1, a2, a3, a4, a5⟩)
      clear h12 h13
      refine ab_seq_k fun K14 h14 => ?_
      simp [z1, hil, hm2, hle]
      refine h14 _ _ _ ?_
      clear h14 K14
      have hsr : (σ ++ [O.row 0 [V.i IntKind.i64 p.1, V.i IntKind.i64 p.2]])[σ.length]? = some (.row 0 [.i .i64 p.1, .i .i64 p.2]) := by simp
      replace hs0 := app_get (g := [O.row 0 [V.i IntKind.i64 p.1, V.i IntKind.i64 p.2]]) hs0
      replace hv := hv.app (g := [O.row 0 [V.i IntKind.i64 p.1, V.i IntKind.i64 p.2]])
      replace hw := hw.app (g := [O.row 0 [V.i IntKind.i64 p.1, V.i IntKind.i64 p.2]])
      replace hσ3 : 3 ≤ (σ ++ [O.row 0 [V.i IntKind.i64 p.1, V.i IntKind.i64 p.2]]).length := by simp; omega
      generalize σ ++ [O.row 0 [V.i IntKind.i64 p.1, V.i IntKind.i64 p.2]] = U at *
      generalize σ.length = il at *
      obtain ⟨hsl, hsr'⟩ := List.getElem?_eq_some_iff.1 hsr
      refine ab_seq_k fun K15 h15 => ?_
      simp [hsr, hsr']
      refine h15 _ _ _ ?_
      clear h15 K15
      refine ab_cond_of rfl (fun hc2 => ?_) (fun hc2 => ?_)
      · have hu : upP T (i : Int) = true := by rw [hup]; simpa using hc2
        rw [if_pos hu] at e1 e2
        have hrow : ints (upsL T i) ++ [V.i IntKind.i64 (i : Int)] = ints (upsL T (i + 1)) := by rw [e1]; simp [ints]
        have hlen : (upsL T (i + 1)).length = (upsL T i).length + 1 := by rw [e1]; simp
        rw [e2] at hend
        simp
        refine appG hv (by omega) (by omega) (by simp) rfl ?_
        intro v' σ' hg1 hg2
        rw [hrow] at hg1
        simp
        exact hend _ σ' v' w rfl rfl rfl rfl rfl rfl (by have := hg2.len; omega) (by rw [hg2.lt hv (by omega) (by omega)]; exact hs0) (by rw [hlen]; exact hg1) (hg2.other hw hd) (hg2.dj hw hd)
      · have hu : ¬ upP T (i : Int) = true := by rw [hup]; simpa using hc2
        rw [if_neg hu] at e1 e2
        have hrow : ints (dnsL T i) ++ [V.i IntKind.i64 (i : Int)] = ints (dnsL T (i + 1)) := by rw [e2]; simp [ints]
        have hlen : (dnsL T (i + 1)).length = (dnsL T i).length + 1 := by rw [e2]; simp
        rw [e1] at hend
        simp
        refine appG hw (by omega) (by omega) (by simp) rfl ?_
        intro w' σ' hg1 hg2
        rw [hrow] at hg1
        simp
        exact hend _ σ' v w' rfl rfl rfl rfl rfl rfl (by have := hg2.len; omega) (by rw [hg2.lt hw (by omega) (by omega)]; exact hs0) (hg2.other hv hd.symm) (by rw [hlen]; exact hg1) (hg2.dj hv hd.symm).symm
    · have hil : i = T.length := by simp at hc; omega
      subst hil
      simp
      refine h8 _ _ _ ?_
      refine h6 _ _ _ ?_
      have hA : ∀ x ∈ upsL T T.length, 0 ≤ x ∧ x < (T.length : Int) := fun x hx => upTo_mem.1 (List.mem_filter.1 hx).1
      have hB : ∀ x ∈ dnsL T T.length, 0 ≤ x ∧ x < (T.length : Int) := fun x hx => upTo_mem.1 (List.mem_filter.1 hx).1
      have hll := ups_len (T := T) (i := T.length)
      have hrs := rule_split (T := T)
      have hlA : (sortB (ltA T) (upsL T T.length)).length = (upsL T T.length).length := sortB_len
      have hlB : (sortB (ltB T) (dnsL T T.length)).length = (dnsL T T.length).length := sortB_len
      generalize upsL T T.length = LA at *
      generalize dnsL T T.length = LB at *
      refine ab_seq_k fun K12 h12 => ?_
      simp
      refine sortG (c := fun a b => cmp (raft T a).1 (raft T b).1) (lt := ltA T) hv (by omega) (fun a b => by simp [ltA, cmp_lt]) (fun a b l' id ver h3 ha hb => cmpA_ok (by rw [List.getElem?_set_ne (by omega)]; exact hs0) (hA a ha).1 (hA a ha).2 (hA b hb).1 (hA b hb).2) ?_
      intro σ1 hv1 hk1 hl1
      replace hw : Gr 3 1 σ1 w LB.length (ints LB) := hw.keep (fun j _ hj => hk1 j (fun e => hd j e hj))
      replace hs0 : σ1[0]? = some (.row 0 (towC T ft room)) := by rw [hk1 0 (fun e => by have := (hv.id_ge e).1; omega)]; exact hs0
      replace hσ3 : 3 ≤ σ1.length := by omega
      clear hv hk1 hl1
      clear h9
      simp
      refine h12 _ _ _ ?_
      clear h12 K12
      refine ab_seq_k fun K12 h12 => ?_
      simp
      refine sortG (c := fun a b => cmp (raft T b).2 (raft T a).2) (lt := ltB T) hw (by omega) (fun a b => by simp [ltB, cmp_lt]) (fun a b l' id ver h3 ha hb => cmpB_ok (by rw [List.getElem?_set_ne (by omega)]; exact hs0) (hB a ha).1 (hB a ha).2 (hB b hb).1 (hB b hb).2) ?_
      intro σ2 hw2 hk2 hl2
      replace hv1 : Gr 3 1 σ2 v LA.length (ints (sortB (ltA T) LA)) := hv1.keep (fun j _ hj => hk2 j (fun e => hd j hj e))
      replace hs0 : σ2[0]? = some (.row 0 (towC T ft room)) := by rw [hk2 0 (fun e => by have := (hw.id_ge e).1; omega)]; exact hs0
      replace hσ3 : 3 ≤ σ2.length := by omega
      clear hw hk2 hl2
      generalize sortB (ltA T) LA = A at *
      generalize sortB (ltB T) LB = B at *
      simp
      refine h12 _ _ _ ?_
      clear h12 K12
      refine ab_seq_k fun K13 h13 => ?_
      simp [hs0, get0_towC, (List.getElem?_eq_some_iff.1 hs0).2]
      refine ⟨by omega, by omega, h13 _ _ _ ?_⟩
      clear h13 K13
      rw [rep_ints]
      have hv2 := hv1.app (g := [O.row 0 (ints (List.replicate T.length 0))])
      have hw3 := hw2.app (g := [O.row 0 (ints (List.replicate T.length 0))])
      refine ab_seq_k fun K14 h14 => ?_
      simp
      refine cpyG (pre := []) (Z := List.replicate T.length 0) (l := A) (by rw [hlA]; exact hv2) (by simp) rfl (by simp) (by omega) ?_
      simp [hlA]
      refine ⟨by omega, ?_⟩
      have hv4 := hw2.app (g := [O.row 0 (ints (A ++ List.replicate (T.length - LA.length) 0))])
      refine cpyG (pre := A) (Z := List.replicate (T.length - LA.length) 0) (l := B) (by rw [hlB]; exact hv4) (by simp) hlA (by simp) (by omega) ?_
      simp
      refine h14 _ _ _ ?_
      clear h14 K14
      have hz : T.length - LA.length - B.length = 0 := by omega
      rw [hz]
      refine ab_seq_k fun K15 h15 => ?_
      simp
      refine h15 _ _ _ ?_
      clear h15 K15
      simp
      refine fin_of 3 ?_
      simp [rs32, ruleP, hct0, -frz]
      refine frz_two ?_
      have hAB : (A ++ B).length = T.length := by rw [List.length_append]; omega
      have h := frz_ints (k := 0) (n := 0) (id := σ2.length) (ver := 0) (σ := σ2 ++ [O.row 0 (ints (A ++ B))]) (l := A ++ B) (by simp) (Nat.zero_le _)
      rw [hAB] at h
      rw [hrs]
      unfold sl
      rw [hAB]
      exact h
  · refine ab_seq_k fun K2 h2 => ?_
    simp [take_towC]
    refine callK_of (open_no hl hct0) ?_
    simp [take_towC]
    refine h2 _ _ _ ?_
    clear h2 K2
    refine ab_seq_k fun K3 h3 => ?_
    refine ab_seq_k fun K4 h4 => ?_
    simp
    refine h4 _ _ _ ?_
    clear h4 K4
    refine ab_cond_of rfl (fun _ => ?_) (fun h => by simp [hct0] at h)
    refine ab_seq_k fun K5 h5 => ?_
    simp
    refine h5 _ _ _ ?_
    clear h5 K5
    simp
    exact fin_of 1 (by simp [rs32, ruleP, hct0])
end Go.Ab
