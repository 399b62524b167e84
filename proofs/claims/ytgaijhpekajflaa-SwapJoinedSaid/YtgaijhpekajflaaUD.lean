/- Drafts, the law SwapDrafts. -/
import Derived.Test.YtgaijhpekajflaaUC
set_option linter.unusedVariables false
set_option linter.unusedSimpArgs false
set_option maxHeartbeats 4000000
set_option maxRecDepth 100000
namespace Go.Ab
open Go Go.Proofs

theorem appGD {k n es bytes m : Nat} {σ : List O} {v : V} {cs ys : List V} {C : Ct} (h : Gr k es σ v n cs) (hk : k ≤ σ.length) (hb : (n + m) * bytes ≤ 140737488355328) (hy : ys.length = m * es)
    (hC : ∀ v' σ', Gr k es σ' v' (n + m) (cs ++ ys) → Grew v v' σ σ' → C v' σ') : appTo es bytes v σ C ys m := by
  by_cases hm : m = 0
  · subst hm
    have hys : ys = [] := by rw [← List.length_eq_zero_iff, hy, Nat.zero_mul]
    subst hys
    have hc := hC v σ (by simpa using h) ⟨Nat.le_refl _, fun _ _ _ => rfl, .inl rfl⟩
    rcases h.cases with ⟨rfl, rfl, rfl⟩ | ⟨id, ver, hn, hid, rfl, hs, hlt⟩
    · simp only [appTo_ss]
      exact ⟨by simp, hb, by rw [if_pos trivial]; exact hc⟩
    · simp only [appTo, hs]
      exact ⟨trivial, trivial, by simp [h.1], hb, by rw [if_pos trivial]; exact hc⟩
  · exact appG h hk hb hm hy hC
theorem grp_nats {o : List Nat} : (nats (grpL o)).Perm o ∧ grpL o = ofN (nats (grpL o)) := by
  constructor
  · have := (sortB_perm (lt := ltI) (l := ofN o)).map Int.toNat
    have e : (ofN o).map Int.toNat = o := nats_ofN
    rw [e] at this
    exact this
  · have hm : ∀ x ∈ grpL o, ((x.toNat : Nat) : Int) = x := fun x hx => by
      unfold grpL at hx
      rw [sortB_mem] at hx
      obtain ⟨g, hg, rfl⟩ := List.mem_map.1 hx
      rfl
    unfold ofN nats
    rw [List.map_map]
    have e : (grpL o).map ((Nat.cast : Nat → Int) ∘ Int.toNat) = (grpL o).map id := List.map_congr_left fun x hx => hm x hx
    rw [e, List.map_id]
theorem drafts28_no {n : Int} {D : List Db} {f : Bool} (hl : (D.length : Int) < 9223372036854775808) (hc : checkBook n D ≠ 0) : FSpec Try.prog 28 [bookV n D f] [] (.tup [.ss [] 0 true, .i .i64 (checkBook n D)]) [] := by
  refine fn28.spec0 mixed noIt_ok ?_
  rw [ic28]
  have hO := fun σ => FSpec.frame (σ := σ) (open61 (n := n) (D := D) (f := f) hl) (by simp) openV_pure
  have e : openV n D f = .tup [.np, .i .i64 (checkBook n D)] := by simp [openV, hc]
  rw [e] at hO
  refine ab_seq_k fun K1 h1 => ?_
  simp
  refine h1 _ _ _ ?_
  clear h1 K1
  refine ab_seq_k fun K2 h2 => ?_
  simp [take_bookC]
  refine callK_of (hO _) ?_
  simp [take_bookC]
  refine h2 _ _ _ ?_
  clear h2 K2
  refine ab_seq_k fun K3 h3 => ?_
  refine ab_seq_k fun K4 h4 => ?_
  simp
  refine h4 _ _ _ ?_
  clear h4 K4
  refine ab_cond_of rfl (fun _ => ?_) (fun h => by simp [hc] at h)
  refine ab_seq_k fun K5 h5 => ?_
  simp
  refine h5 _ _ _ ?_
  clear h5 K5
  simp
  exact fin_of 1 (by simp [rs28])
theorem allD_take {F : Nat → Int} {N i g : Nat} {G : List Nat} (h : G[i]? = some g) : allD F N (G.take (i + 1)) = allD F N (G.take i) ++ settleL F (mlL g N) := by
  rw [List.take_add_one, h, allD_append]
  show _ ++ (settleL F (mlL g N) ++ []) = _
  rw [List.append_nil]
theorem drafts28 {N : Nat} {D : List Db} (hl : (D.length : Int) < 9223372036854775808) (hc : checkBook N D = 0) (hN1 : 1 ≤ N) (hN : N ≤ 10) (hD : DbOK N 1000000 D) (hlen : D.length ≤ 40) :
    ∃ L : List Db, draftE N D L = 0 ∧ (L.length : Int) = N - topP N D ∧ ∀ f, FSpec Try.prog 28 [bookV N D f] [] (.tup [slD L (L.length == 0), .i .i64 0]) [] := by
  obtain ⟨o, hch, hG64, -⟩ := groups31 hl hc hN1 hN hD
  obtain ⟨hgp, hge⟩ := grp_nats (o := o)
  obtain ⟨hd1, hd2⟩ := drafts_ok hc hN hD hlen hch hgp
  have hGok : ∀ g ∈ nats (grpL o), g ≠ 0 ∧ g < 2 ^ N := fun g hg => by
    have := hch.og g (hgp.mem_iff.1 hg)
    exact ⟨by omega, this.2.1⟩
  have hol := hch.len
  have hGl : (nats (grpL o)).length = o.length := hgp.length_eq
  generalize hG : nats (grpL o) = G at *
  refine ⟨_, hd1, hd2, fun f => ?_⟩
  refine fn28.spec0 mixed noIt_ok ?_
  rw [ic28]
  have hO := fun σ => FSpec.frame (σ := σ) (open61 (n := N) (D := D) (f := f) hl) (by simp) openV_pure
  have e : openV N D f = .tup [ledT N D f, .i .i64 0] := by simp [openV, hc]
  rw [e] at hO
  have hGf := fun σ => FSpec.frame (σ := σ) (hG64 f) (by simp) (by simp)
  rw [hge] at hGf
  have hS := fun (g : Nat) (h0 : g ≠ 0) (hg : g < 2 ^ N) σ => FSpec.frame (σ := σ) (settle65 (f := f) hN hD hlen h0 hg) (by simp) (by simp)
  have hpt : (ledT N D f).pure = true := pure_ledT
  have hall : ∀ i, (allD (balF D) N (G.take i)).length ≤ 1000 := fun i => by
    have h1 := allD_len (F := balF D) (N := N) (G := G.take i) (fun g hg => hGok g (List.mem_of_mem_take hg))
    have h2 : sN (fun m => (cntB m (G.take i) : Int)) N ≤ 1000 := by
      have : ∀ m, m ≤ N → sN (fun m => (cntB m (G.take i) : Int)) m ≤ 10 * m := fun m => by
        induction m with
        | zero => intro _; simp [sN]
        | succ m ih =>
          intro hm
          have a := ih (by omega)
          have b := cntB_le (m := m) (G := G.take i)
          have c := List.length_take_le i G
          simp only [sN]
          have : (G.take i).length ≤ G.length := by rw [List.length_take]; omega
          omega
      have := this N (Nat.le_refl _)
      omega
    omega
  have hml : ∀ g, (settleL (balF D) (mlL g N)).length ≤ 10 := fun g => by
    rw [settleL_len]; have := mlL_len (g := g) (k := N); omega
  clear e hG64 hd1 hd2
  generalize ledT N D f = lt at *
  generalize balF D = F at *
  refine ab_seq_k fun K1 h1 => ?_
  simp
  refine h1 _ _ _ ?_
  clear h1 K1
  refine ab_seq_k fun K2 h2 => ?_
  simp [take_bookC]
  refine callK_of (hO _) ?_
  simp [take_bookC]
  refine h2 _ _ _ ?_
  clear h2 K2
  refine ab_seq_k fun K3 h3 => ?_
  refine ab_seq_k fun K4 h4 => ?_
  simp
  refine h4 _ _ _ ?_
  clear h4 K4
  refine ab_cond_of rfl (fun h => by cases h) (fun _ => ?_)
  simp
  refine h3 _ _ _ ?_
  clear h3 K3
  refine ab_seq_k fun K5 h5 => ?_
  simp
  refine h5 _ _ _ ?_
  clear h5 K5
  refine ab_seq_k fun K6 h6 => ?_
  refine ab_seq_k fun K7 h7 => ?_
  simp
  refine callK_of (hGf _) ?_
  simp
  refine h7 _ _ _ ?_
  clear h7 K7
  refine ab_block_k fun K8 h8 => ?_
  refine ab_loop_k (fun m env σ => ∃ (i : Nat) (v : V), i + m = G.length ∧ env = [(4, lt), (6, v), (18, sl (ofN G) false), (19, .i .i64 G.length), (20, .i .i64 i)] ∧ 1 ≤ σ.length ∧ Gr 1 3 σ v (allD F N (G.take i)).length (lsD (allD F N (G.take i)))) G.length
    ⟨0, .ss [] 0 true, by omega, by simp, by simp, by simpa [allD, lsD] using Gr.nil⟩ ?_
  rintro m env σ ⟨i, v, hi, rfl, hσ, hv⟩ K9 h9
  rw [ic28_0]
  refine ab_seq_k fun K10 h10 => ?_
  simp
  refine h10 _ _ _ ?_
  clear h10 K10
  refine ab_seq_k fun K11 h11 => ?_
  refine ab_cond_of rfl (fun hc3 => ?_) (fun hc3 => ?_)
  · have hil : i < G.length := by simpa using hc3
    obtain ⟨g, hg⟩ : ∃ g, G[i]? = some g := ⟨_, List.getElem?_eq_getElem hil⟩
    obtain ⟨hgl, hg'⟩ := List.getElem?_eq_some_iff.1 hg
    have q := ofN_get hg
    obtain ⟨ql, q'⟩ := List.getElem?_eq_some_iff.1 q
    obtain ⟨g0, gW⟩ := hGok g (List.mem_of_getElem? hg)
    have hst := allD_take (F := F) (N := N) hg
    have hal := hall i
    have hmg := hml g
    have hcall := hS g g0 gW
    generalize settleL F (mlL g N) = S at *
    simp
    refine h11 _ _ _ ?_
    clear h11 K11
    refine ab_seq_k fun K12 h12 => ?_
    refine ab_block_k fun K13 h13 => ?_
    refine ab_seq_k fun K14 h14 => ?_
    simp [hil, q, q']
    refine h14 _ _ _ ?_
    clear h14 K14
    simp
    refine callK_of (hcall _) ?_
    simp
    refine appGD hv (by omega) (by omega) (by simp) ?_
    intro v2 σ2 hv2 hg2
    simp
    refine h13 _ _ _ ?_
    refine h12 _ _ _ ?_
    simp [wrap64 (x := (i : Int) + 1) (by omega) (by omega)]
    refine h9 _ _ _ (again (m - 1) (by omega) ⟨i + 1, v2, by omega, by simp, by have := hg2.len; omega, ?_⟩)
    rw [hst, List.length_append, lsD_append]
    exact hv2
  · have hil : i = G.length := by simp at hc3; omega
    subst hil
    rw [List.take_length] at hv
    simp
    refine h8 _ _ _ ?_
    refine h6 _ _ _ ?_
    refine ab_seq_k fun K20 h20 => ?_
    simp
    refine h20 _ _ _ ?_
    clear h20 K20
    simp
    refine fin_of 3 ?_
    simp [-frz, rs28]
    rw [frz_two (frz_G hv (by simp))]
theorem fewP_ok {N : Nat} {D : List Db} (hc : checkBook N D = 0) : fewP N D = (N - topP N D, 0) := by
  unfold fewP
  rw [if_pos hc, Int.toNat_natCast]
end Go.Ab
