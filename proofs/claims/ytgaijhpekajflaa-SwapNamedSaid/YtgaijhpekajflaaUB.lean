/- Settling a set, the drafts. -/
import Derived.Test.YtgaijhpekajflaaUA
set_option linter.unusedVariables false
set_option linter.unusedSimpArgs false
set_option maxHeartbeats 4000000
set_option maxRecDepth 100000
namespace Go.Ab
open Go Go.Proofs

theorem ofN_get {o : List Nat} {i x : Nat} (h : o[i]? = some x) : (ofN o)[i]? = some (x : Int) := by simp [ofN, h]
theorem lsD_one {d : Db} : lsD [d] = [.i .i64 d.1, .i .i64 d.2.1, .i .i64 d.2.2] := rfl
theorem settle_take {F : Nat → Int} {l : List Nat} {i : Nat} (h : i < l.length - 1) : (settleL F l).take (i + 1) = (settleL F l).take i ++ [draftAt F l i] := by
  rw [List.take_add_one]
  congr 1
  simp [settleL, h]
theorem settle65 {N : Nat} {D : List Db} {f : Bool} {g : Nat} (hN : N ≤ 10) (hD : DbOK N 1000000 D) (hlen : D.length ≤ 40) (hg1 : g ≠ 0) (hg : g < 2 ^ N) :
    FSpec Try.prog 65 [ledT N D f, .i .i64 g] [] (slD (settleL (balF D) (mlL g N)) ((mlL g N).length - 1 == 0)) [] := by
  refine fn65.spec0 mixed noIt_ok ?_
  rw [ic65]
  have hp := pow_small hN
  have hF := bal_small hD hlen
  have hg2 : g < 1024 := Nat.lt_of_lt_of_le hg hp.2
  obtain ⟨c, hc, c1, c2, c3, c4, c5⟩ := led_cells (N := N) (D := D) (f := f)
  obtain ⟨c3l, c3'⟩ := List.getElem?_eq_some_iff.1 c3
  have hpt : (ledT N D f).pure = true := pure_ledT
  rw [hc] at hpt ⊢
  have hne : (mlL g N).length ≠ 0 := fun h => by
    obtain ⟨i, hi⟩ := ne_bit hg1
    have : i ∈ mlL g N := mlL_mem.2 ⟨bit_lt hg hi, hi⟩
    rw [List.length_eq_zero_iff.1 h] at this
    cases this
  have hpre : ∀ j m, (mlL g N)[j]? = some m → m < N ∧ -20000000000 ≤ preS (balF D) (mlL g N) j ∧ preS (balF D) (mlL g N) j ≤ 20000000000 := fun j m hm => by
    rw [preS_at hm]
    have h1 := (mlL_mem.1 (List.mem_of_getElem? hm)).1
    have := sumF_b (F := balF D) (B := 2000000000) (by omega) hF (s := g) m
    omega
  have hnd := mlL_len (g := g) (k := N)
  generalize hFF : balF D = F at *
  refine ab_seq_k fun K1 h1 => ?_
  simp
  refine h1 _ _ _ ?_
  clear h1 K1
  refine ab_seq_k fun K2 h2 => ?_
  simp
  refine h2 _ _ _ ?_
  clear h2 K2
  refine ab_seq_k fun K3 h3 => ?_
  refine ab_seq_k fun K4 h4 => ?_
  simp [c1, c3, c3']
  refine h4 _ _ _ ?_
  clear h4 K4
  refine ab_block_k fun K5 h5 => ?_
  refine ab_loop_k (fun m env σ => ∃ (k : Nat) (w : V), k + m = N ∧ env = [(0, .sp c 0), (1, .i .i64 g), (5, w), (16, .i .i64 N), (17, .i .i64 k)] ∧ Gr 0 1 σ w (mlL g k).length (ints (ofN (mlL g k)))) N
    ⟨0, .ss [] 0 true, by omega, by simp, Gr.nil⟩ ?_
  rintro m env σ ⟨k, w, hk, rfl, hw⟩ K6 h6
  rw [ic65_0]
  refine ab_seq_k fun K7 h7 => ?_
  simp
  refine h7 _ _ _ ?_
  clear h7 K7
  refine ab_seq_k fun K8 h8 => ?_
  refine ab_cond_of rfl (fun hc3 => ?_) (fun hc3 => ?_)
  · have hkN : k < N := by simpa using hc3
    have hbk := bit_eq (s := g) (m := k) (by omega) (by omega)
    have hds := mlL_succ (g := g) (k := k)
    have hdl := mlL_len (g := g) (k := k)
    simp
    refine h8 _ _ _ ?_
    clear h8 K8
    refine ab_seq_k fun K9 h9 => ?_
    refine ab_block_k fun K10 h10 => ?_
    refine ab_seq_k fun K11 h11 => ?_
    simp
    refine h11 _ _ _ ?_
    clear h11 K11
    refine ab_seq_k fun K12 h12 => ?_
    simp [hbk]
    refine h12 _ _ _ ?_
    clear h12 K12
    have hend : ∀ env σ w, get env 0 = .sp c 0 → get env 1 = .i .i64 g → get env 5 = w → get env 16 = .i .i64 N → get env 17 = .i .i64 k → Gr 0 1 σ w (mlL g (k + 1)).length (ints (ofN (mlL g (k + 1)))) → K10 (some 0) env σ := by
      intro env σ w w0 w1 w5 w16 w17 a1
      refine h10 _ _ _ ?_
      refine h9 _ _ _ ?_
      simp [w0, w1, w5, w16, w17, wrap64 (x := (k : Int) + 1) (by omega) (by omega)]
      exact h6 _ _ _ (again (m - 1) (by omega) ⟨k + 1, w, by omega, by simp, a1⟩)
    cases hb : g.testBit k with
    | false =>
      rw [hb] at hds
      refine ab_cond_of rfl (fun h => by simp [hb] at h) (fun _ => ?_)
      simp
      exact hend _ _ _ rfl rfl rfl rfl rfl (by rw [hds]; simpa using hw)
    | true =>
      rw [hb, if_pos rfl] at hds
      refine ab_cond_of rfl (fun _ => ?_) (fun h => by simp [hb] at h)
      simp
      refine appG hw (by omega) (by omega) (by simp) rfl ?_
      intro w2 σ3 hw2 hg2
      simp
      refine hend _ _ _ rfl rfl rfl rfl rfl ?_
      rw [hds, ofN_snoc, ints_snoc, List.length_append]; exact hw2
  have hkN : N = k := by simp at hc3; omega
  subst hkN
  obtain ⟨id, ver, -, hid, rfl, hrow, hidl⟩ := hw.cases.resolve_left (by omega)
  obtain ⟨hrow0, hrow'⟩ := List.getElem?_eq_some_iff.1 hrow
  clear hw
  generalize hml : mlL g N = ml at *
  simp
  refine h5 _ _ _ ?_
  refine h3 _ _ _ ?_
  clear h3 h5 h6 h8 K3 K5 K6 K8
  refine ab_seq_k fun K13 h13 => ?_
  simp
  refine h13 _ _ _ ?_
  clear h13 K13
  refine ab_seq_k fun K14 h14 => ?_
  simp
  refine h14 _ _ _ ?_
  clear h14 K14
  refine ab_seq_k fun K15 h15 => ?_
  refine ab_seq_k fun K16 h16 => ?_
  simp [liveV, hrow, hrow', wrap64 (x := (ml.length : Int) - 1) (by omega) (by omega)]
  refine ⟨by omega, by omega, ?_⟩
  refine h16 _ _ _ ?_
  clear h16 K16
  have hSl : (settleL F ml).length = ml.length - 1 := settleL_len
  refine ab_block_k fun K17 h17 => ?_
  refine ab_loop_k (fun m env σ => ∃ (i : Nat) (v : V), i + m = ml.length - 1 ∧ env = [(0, .sp c 0), (5, .s id ver 0 ml.length 1), (7, v), (8, .i .i64 (preS F ml i)), (34, .s id ver 0 (ml.length - 1) 1), (35, .i .i64 ((ml.length - 1 : Nat) : Int)), (36, .i .i64 i)] ∧ σ[id]? = some (.row ver (ints (ofN ml))) ∧ Gr (id + 1) 3 σ v i (lsD ((settleL F ml).take i))) (ml.length - 1)
    ⟨0, .ss [] 0 true, by omega, by simp [preS], hrow, by simpa [lsD] using Gr.nil⟩ ?_
  clear hrow hrow0 hrow' hidl
  rintro m env σ2 ⟨i, v, hi, rfl, hrow, hv⟩ K18 h18
  obtain ⟨hidl, hrow'⟩ := List.getElem?_eq_some_iff.1 hrow
  rw [ic65_1]
  refine ab_seq_k fun K19 h19 => ?_
  simp
  refine h19 _ _ _ ?_
  clear h19 K19
  refine ab_seq_k fun K20 h20 => ?_
  refine ab_cond_of rfl (fun hc3 => ?_) (fun hc3 => ?_)
  · have hil : i < ml.length - 1 := by simp at hc3; omega
    obtain ⟨x, hx⟩ : ∃ x, ml[i]? = some x := ⟨_, List.getElem?_eq_getElem (by omega)⟩
    obtain ⟨y, hy⟩ : ∃ y, ml[i + 1]? = some y := ⟨_, List.getElem?_eq_getElem (by omega)⟩
    have qx := ofN_get hx
    have qy := ofN_get hy
    obtain ⟨qxl, qx'⟩ := List.getElem?_eq_some_iff.1 qx
    obtain ⟨qyl, qy'⟩ := List.getElem?_eq_some_iff.1 qy
    obtain ⟨hxN, p1, p2⟩ := hpre i x hx
    obtain ⟨hyN, p3, p4⟩ := hpre (i + 1) y hy
    have hps := preS_succ (F := F) hx
    have hda : draftAt F ml i = mkD (preS F ml (i + 1)) x y := by
      unfold draftAt
      rw [List.getD_eq_getElem?_getD, hx, List.getD_eq_getElem?_getD, hy]
      rfl
    have hst := settle_take (F := F) hil
    rw [hda] at hst
    have c4x := c4 x (by omega)
    obtain ⟨c4l, c4'⟩ := List.getElem?_eq_some_iff.1 c4x
    have hx10 : x < 10 := by omega
    have him : i < ml.length := by omega
    have him1 : i + 1 < ml.length := by omega
    have hiz : (i : Int) + 1 < ml.length := by omega
    have hiz0 : (0 : Int) ≤ (i : Int) + 1 := by omega
    have hw1 := wrap64 (x := (i : Int) + 1) (by omega) (by omega)
    have hl1 : i < (ofN ml).length := by rw [ofN_len]; omega
    have hl2 : i + 1 < (ofN ml).length := by rw [ofN_len]; omega
    simp
    refine h20 _ _ _ ?_
    clear h20 K20
    refine ab_seq_k fun K21 h21 => ?_
    refine ab_block_k fun K22 h22 => ?_
    refine ab_seq_k fun K23 h23 => ?_
    simp [hrow, hrow', hil, qx, qx']
    refine h23 _ _ _ ?_
    clear h23 K23
    refine ab_seq_k fun K24 h24 => ?_
    simp [c1, c4x, c4', hx10]
    rw [wrap64 (by omega) (by omega), ← hps]
    refine ⟨by omega, ?_⟩
    refine h24 _ _ _ ?_
    clear h24 K24
    refine ab_seq_k fun K25 h25 => ?_
    simp [hrow, hrow', hw1, him1, hiz, hiz0, qy, qy']
    refine h25 _ _ _ ?_
    clear h25 K25
    generalize hd : mkD (preS F ml (i + 1)) x y = d at *
    generalize hll : preS F ml (i + 1) = l at *
    have r1 : (σ2 ++ [O.row 0 [V.i IntKind.i64 ↑y, V.i IntKind.i64 ↑x, V.i IntKind.i64 l]])[id]? = some (.row ver (ints (ofN ml))) := app_get hrow
    have r2 : (σ2 ++ [O.row 0 [V.i IntKind.i64 ↑y, V.i IntKind.i64 ↑x, V.i IntKind.i64 l]])[σ2.length]? = some (O.row 0 [V.i IntKind.i64 ↑y, V.i IntKind.i64 ↑x, V.i IntKind.i64 l]) := by simp
    have r3 := hv.app (g := [O.row 0 [V.i IntKind.i64 ↑y, V.i IntKind.i64 ↑x, V.i IntKind.i64 l]])
    have hvid : idOf v ≠ some σ2.length := fun h => by have := (hv.id_ge h).2; omega
    generalize σ2 ++ [O.row 0 [V.i IntKind.i64 ↑y, V.i IntKind.i64 ↑x, V.i IntKind.i64 l]] = σ3 at *
    clear hrow' hrow
    have hidd : id < σ2.length := hidl
    clear hidl
    generalize hdi : σ2.length = di at *
    obtain ⟨r1l, r1'⟩ := List.getElem?_eq_some_iff.1 r1
    obtain ⟨r2l, r2'⟩ := List.getElem?_eq_some_iff.1 r2
    refine ab_seq_k fun K26 h26 => ?_
    have hend : ∀ env σ, get env 0 = .sp c 0 → get env 5 = .s id ver 0 ml.length 1 → get env 7 = v → get env 8 = .i .i64 l → get env 11 = .p di 0 0 → get env 34 = .s id ver 0 (ml.length - 1) 1 → get env 35 = .i .i64 ((ml.length - 1 : Nat) : Int) → get env 36 = .i .i64 i →
        σ[id]? = some (.row ver (ints (ofN ml))) → σ[di]? = some (.row 0 [.i .i64 d.1, .i .i64 d.2.1, .i .i64 d.2.2]) → Gr (id + 1) 3 σ v i (lsD ((settleL F ml).take i)) → K26 (some 0) env σ := by
      intro env σ w0 w5 w7 w8 w11 w34 w35 w36 a1 a2 a3
      obtain ⟨a2l, a2'⟩ := List.getElem?_eq_some_iff.1 a2
      have hal := (List.getElem?_eq_some_iff.1 a1).1
      refine h26 _ _ _ ?_
      simp [w0, w5, w7, w8, w11, w34, w35, w36, a2, a2']
      refine appG a3 (by omega) (by omega) (by simp) (by simp) ?_
      intro v2 σ4 hv2 hg2
      simp [w0, w5, w7, w8, w11, w34, w35, w36]
      refine h22 _ _ _ ?_
      refine h21 _ _ _ ?_
      simp [hw1]
      refine h18 _ _ _ (again (m - 1) (by omega) ⟨i + 1, v2, by omega, by simp [hll], ?_, ?_⟩)
      · rw [hg2.lt a3 (by omega) (by omega)]; exact a1
      · rw [hst, lsD_append]; exact hv2
    refine ab_seq_k fun K28 h28 => ?_
    simp
    refine h28 _ _ _ ?_
    clear h28 K28
    by_cases hneg : l < 0
    · have hdv : d = ((x : Int), (y : Int), -l) := by rw [← hd]; unfold mkD; rw [if_pos hneg]
      refine ab_cond_of rfl (fun _ => ?_) (fun h => by simp at h; omega)
      simp [r1, r1', r2, r2', hw1, him1, hiz, hiz0, qy, qy', wrap64 (x := -l) (by omega) (by omega)]
      refine hend _ _ rfl rfl rfl rfl rfl rfl rfl rfl ?_ ?_ (r3.set hvid)
      · rw [List.getElem?_set_ne (by omega)]; exact r1
      · rw [List.getElem?_set_self r2l, hdv]
    · have hdv : d = ((y : Int), (x : Int), l) := by rw [← hd]; unfold mkD; rw [if_neg hneg]
      refine ab_cond_of rfl (fun h => by simp at h; omega) (fun _ => ?_)
      simp
      refine hend _ _ rfl rfl rfl rfl rfl rfl rfl rfl r1 ?_ r3
      rw [r2, hdv]
  · have hil : i = ml.length - 1 := by simp at hc3; omega
    subst hil
    rw [← hSl, List.take_length] at hv
    simp
    refine h17 _ _ _ ?_
    refine h15 _ _ _ ?_
    refine ab_seq_k fun K40 h40 => ?_
    simp
    refine h40 _ _ _ ?_
    clear h40 K40
    simp
    refine fin_of 2 ?_
    simp [-frz, rs65]
    have hq := frz_G hv (by simp)
    rw [hSl] at hq
    rw [hq]
    simp [slD]
end Go.Ab
