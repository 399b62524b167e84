/- The abstract layer, part 7: append, clear, copy, greatest and least, equality. -/
import Derived.Test.YtchmfamkpfaieaaAb6
set_option linter.unusedVariables false
set_option linter.unusedSimpArgs false
namespace Go.Ab
open Go

section
variable {P : Program} {C : Cx} {σ : List O}

theorem rowOf_sound (h : R C σ) {es : Nat} {y : V} {c : Value} (hy : VR C y c) {K : List V → Nat → Prop} (hk : rowOf es y σ K) :
    ∃ (a : Option Addr) (cap m : Nat) (ys : List V) (news : List Value), c = .slice a m cap ∧ CR C ys news ∧ ys.length = m * es ∧
      (∀ ad, a = some ad → ∀ (j : Nat) (u : Value), news[j]? = some u → C.w.cell? (ad.add j) = some u) ∧ (a = none → m = 0) ∧ K ys m := by
  cases y <;> simp only [rowOf] at hk
  case ss ys m full =>
    obtain ⟨hl, hk⟩ := hk
    cases hy with
    | ss0 a cap => exact ⟨a, cap, 0, [], [], rfl, ⟨rfl, by simp, by simp⟩, by simp, by simp, fun _ => rfl, hk⟩
    | ssn a => exact ⟨a, 0, 0, [], [], rfl, ⟨rfl, by simp, by simp⟩, by simp, by simp, fun _ => rfl, hk⟩
    | ss _ _ _ blk base cap cs hz hl' h1 hc hv hlc hf =>
      refine ⟨_, cap, m, ys, cs, rfl, ⟨hl', h1, hv⟩, hl, fun ad he j u hu => ?_, fun he => by simp at he, hk⟩
      cases he
      rw [add_at]; exact hc j u hu
  case s id ver off m es' =>
    split at hk
    · rename_i v cells ho
      obtain ⟨rfl, rfl, hoff, hk⟩ := hk
      have hver := h.ver id _ ho
      obtain ⟨blk, bs, at_, cap, cc, t, rfl, hρ, hlc, hb, hsz, ha⟩ := slice_live hver hy
      obtain ⟨cc', t', hb', hl', h1, hv⟩ := row_inv (h.obj id _ blk bs ho hρ)
      rw [hb] at hb'; cases hb'
      refine ⟨_, cap, m, (cells.drop off).take (m * es), (cc.toList.drop (bs + off)).take (m * es), rfl, ⟨by simp; omega, fun d hd => ?_, fun j x d hx hd => ?_⟩, by simp; omega, fun ad he j u hu => ?_, fun he => by simp at he, hk⟩
      · exact h1 d (by simpa using List.mem_of_mem_drop (List.mem_of_mem_take hd))
      · rw [List.getElem?_take] at hx hd
        split at hx
        · rename_i hj
          rw [if_pos hj] at hd
          rw [List.getElem?_drop] at hx hd
          exact hv (off + j) x d hx (by rw [← Nat.add_assoc]; simpa using hd)
        · cases hx
      · cases he
        rw [List.getElem?_take] at hu
        split at hu
        · rename_i hj
          have hm : m ≠ 0 := fun e => by subst e; omega
          rw [List.getElem?_drop] at hu
          rw [add_at, ha (by omega), cell_of hb]
          simpa using hu
        · cases hu
    · exact hk.elim
  all_goals exact hk.elim

theorem run_append_room' (t ty e : TypeId) (i : TypeInfo) (ht : P.underlying t = some (.slice e)) (hi : P.info? e = some i) (w : World)
    (g o sLen sCap : Nat) (cur : Array Value) (t' : TypeId) (hg : w.heap[g]? = some (.cells cur t' (0, 0)))
    (a : Addr) (m c : Nat) (news : List Value) (hl : news.length = m * i.size) (hnews : ∀ (j : Nat) (u : Value), news[j]? = some u → w.cell? (a.add j) = some u) (h1 : ∀ u ∈ news, u.oneCell' = true)
    (hroom : sLen + m ≤ sCap) (hfit : o + sLen * i.size + news.length ≤ cur.size) :
    (Builtin.append_ #[t, t] ty #[.slice (some ⟨g, o, none⟩) sLen sCap, .slice (some a) m c]).run P w =
      .ok (.slice (some ⟨g, o, none⟩) (sLen + m) sCap) (w.setRow g (cur.toList.take (o + sLen * i.size) ++ news ++ cur.toList.drop (o + sLen * i.size + news.length)).toArray) := by
  have hf := run_firstCells_some (P := P) w i.size m a m c news hl hnews
  have hst := run_storeCells_at P g (o + sLen * i.size) t' news 0 cur w hg (by simpa using hfit) h1
  simp [Builtin.append_, run_underlying ht, sizeOf, typeInfo, hi, Builtin.lenOf, hroom, hf, add_at, hst]

theorem run_append_none (t ty e : TypeId) (i : TypeInfo) (ht : P.underlying t = some (.slice e)) (hi : P.info? e = some i) (w : World) (x : Option Addr) (n cap : Nat) (hn : n ≤ cap) (a : Option Addr) (c : Nat) :
    (Builtin.append_ #[t, t] ty #[.slice x n cap, .slice a 0 c]).run P w = .ok (.slice x n cap) w := by
  cases x <;> cases a <;> simp [Builtin.append_, run_underlying ht, sizeOf, typeInfo, hi, Builtin.lenOf, hn, Builtin.firstCells, loadCells, loadCellsFrom, storeCells]

theorem zeroCells_one {z : Array Value} (hz : ∀ c ∈ z, one1 c = true) (n : Nat) : ∀ c ∈ Builtin.zeroCells z n, one1 c = true := by
  intro c hc
  simp only [Builtin.zeroCells, Array.mem_map, Array.mem_range] at hc
  obtain ⟨i, hi, rfl⟩ := hc
  have h0 : 0 < z.size := by
    rcases Nat.eq_zero_or_pos z.size with h | h
    · rw [h] at hi; omega
    · exact h
  have hm := Nat.mod_lt i h0
  rw [getElem!_pos z _ hm]
  exact hz _ (Array.getElem_mem hm)

/-- A new row behind a draw: what 'append' lays where it grows. -/
theorem grown_row (h : R C σ) {e : TypeId} {xs : List V} {cs : List Value} (hcr : CR C xs cs) (rest : Array Value) (hrest : ∀ c ∈ rest, one1 c = true) {n es cap : Nat} (hn : n ≤ cap)
    (hsz : cap * es ≤ (cs.toArray ++ rest).size) {K : V → List O → Prop} (hk : K (.s σ.length 0 0 n es) (σ ++ [.row 0 xs])) :
    Done C K (.ok (.slice (some ⟨C.w.heap.size, 0, none⟩) n cap) (C.w.drew.alloc (.cells (cs.toArray ++ rest) e))) := by
  obtain ⟨q1, q2⟩ := h.quiet (w' := C.w.drew) rfl rfl rfl (Nat.le_refl _) (fun _ _ => rfl)
  have hb : ((C.world C.w.drew).alloc (.cells (cs.toArray ++ rest) e)).w.heap[C.w.heap.size]? = some (.cells (cs.toArray ++ rest) e (0, 0)) := heap_alloc_eq C.w.drew _
  have e2 := alloc_ext q1.wf (.cells (cs.toArray ++ rest) e)
  have r1 := q1.alloc (.cells (cs.toArray ++ rest) e) (.row 0 xs) rfl (.row 0 xs (cs.toArray ++ rest) e hb (by have := hcr.1; simp; omega) (fun c hc => by
      simp only [Array.mem_append] at hc
      rcases hc with hc | hc
      · exact hcr.2.1 c (by simpa using hc)
      · exact hrest c hc) (fun j x c hx hc => by
        have hj := (List.getElem?_eq_some_iff.1 hx).1
        have hlen := hcr.1
        rw [Nat.zero_add, Array.getElem?_append_left (by simp; omega)] at hc
        exact ((hcr.2.2 j x c hx (by simpa using hc)).ext q2 h.wf).ext e2 q1.wf))
  refine ⟨_, (C.world C.w.drew).alloc (.cells (cs.toArray ++ rest) e), _, _, rfl, r1, q2.trans e2, ?_, hk⟩
  refine .s _ _ _ _ _ C.w.heap.size 0 0 cap (cs.toArray ++ rest) e ?_ ?_ hn hb (by simpa using hsz) (fun _ => rfl)
  · show (C.ρ ++ _)[σ.length]? = _
    rw [h.len, ← h.wf.len]; simp [Cx.world]
  · show (C.vs ++ _)[σ.length]? = _
    rw [h.len]; simp [Cx.world]

theorem CR.append {xs ys : List V} {cs ds : List Value} (h : CR C xs cs) (k : CR C ys ds) : CR C (xs ++ ys) (cs ++ ds) := by
  refine ⟨by simp [h.1, k.1], fun c hc => ?_, fun j x c hx hc => ?_⟩
  · rcases List.mem_append.1 hc with hc | hc
    · exact h.2.1 c hc
    · exact k.2.1 c hc
  · by_cases hj : j < xs.length
    · rw [List.getElem?_append_left hj] at hx
      rw [List.getElem?_append_left (by rw [h.1]; exact hj)] at hc
      exact h.2.2 j x c hx hc
    · rw [List.getElem?_append_right (by omega)] at hx
      rw [List.getElem?_append_right (by rw [h.1]; omega), h.1] at hc
      exact k.2.2 _ x c hx hc

theorem bytes_bound {n b : Nat} (hb : 0 < b) (h : n * b ≤ 140737488355328) : n ≤ 140737488355328 := Nat.le_trans (Nat.le_mul_of_pos_right n hb) h

theorem app_sound (h : R C σ) {x y : V} {cx cy : Value} (hx : VR C x cx) (hy : VR C y cy) {t e ty : TypeId} {i : TypeInfo} (ht : P.underlying t = some (.slice e)) (hi : P.info? e = some i)
    {zs : List V} (hz : zcP P e = some zs) (hzl : zs.length = i.size) (hb0 : 0 < i.bytes) {K : V → List O → Prop} (hk : appK i.size i.bytes x y σ K) :
    Done C K ((Builtin.append_ #[t, t] ty #[cx, cy]).run P C.w) := by
  obtain ⟨z, hzr, hza, hzb, hzc, i', hi', hiz⟩ := zcP_sound hz C
  rw [hi] at hi'; cases hi'
  have hzs : z.cells.size = i.size := by rw [hza, hzl]
  unfold appK at hk
  obtain ⟨a, capy, m, ys, news, rfl, hcr, hlen, hcell, hnone, hk'⟩ := rowOf_sound h hy hk
  clear hk
  have hk := hk'
  clear hk'
  have hnl : news.length = m * i.size := by rw [hcr.1, hlen]
  cases x
  case ss xs n full =>
    cases full with
    | false => exact False.elim hk
    | true =>
      obtain ⟨hxl, hbig, hk⟩ := hk
      by_cases hm : m = 0
      · rw [if_pos hm] at hk
        subst hm
        have hlc : ∃ x0 cap, cx = .slice x0 n cap ∧ n ≤ cap := by
          cases hx with
          | ssn a => exact ⟨a, 0, rfl, Nat.le_refl _⟩
          | ss _ _ _ blk base cap cs hz hl h1 hc hv hlc hf => exact ⟨_, cap, rfl, hlc⟩
        obtain ⟨x0, cap, rfl, hlc⟩ := hlc
        rw [run_append_none t ty e i ht hi _ _ _ _ hlc]
        exact Done.same h hx hk
      · rw [if_neg hm] at hk
        obtain ⟨ad, rfl⟩ : ∃ ad, a = some ad := by
          cases a with
          | none => exact absurd (hnone rfl) hm
          | some ad => exact ⟨ad, rfl⟩
        have hbn := bytes_bound hb0 hbig
        have grow : ∀ (b : Addr) (olds : List Value), CR C xs olds → (∀ (j : Nat) (u : Value), olds[j]? = some u → C.w.cell? (b.add j) = some u) →
            Done C K ((Builtin.append_ #[t, t] ty #[.slice (some b) n n, .slice (some ad) m capy]).run P C.w) := by
          intro b olds hco holds
          rw [run_append_grow C.w t ty e i z ht hi hiz b n n olds (by rw [hco.1, hxl]) holds ad m capy news hnl (hcell ad rfl) (by omega) (by omega) (growslice_fits (by omega) hbig)]
          have hge := grownCap_ge C.w (n + m) n e
          rw [show olds.toArray ++ news.toArray = (olds ++ news).toArray by simp]
          refine grown_row h (hco.append hcr) _ (zeroCells_one hzb _) hge ?_ hk
          rw [Array.size_append, size_zeroCells, hzs]
          simp only [List.size_toArray, List.length_append, hco.1, hxl, hnl]
          rw [← Nat.add_mul, ← Nat.add_mul]
          exact Nat.mul_le_mul_right _ (by omega)
        cases hx with
        | ssn a' =>
          cases a' with
          | none =>
            rw [run_append_nil C.w t ty e i z ht hi hiz ad m capy news hnl (hcell ad rfl) (by omega) (by omega) (by rw [Nat.zero_add] at hbig; omega)]
            have hge := grownCap_ge C.w m 0 e
            rw [Nat.zero_add, List.nil_append] at hk
            refine grown_row h hcr _ (zeroCells_one hzb _) hge ?_ hk
            rw [Array.size_append, size_zeroCells, hzs]
            simp only [List.size_toArray, hnl]
            rw [← Nat.add_mul]
            exact Nat.mul_le_mul_right _ (by omega)
          | some b => exact grow b [] ⟨rfl, by simp, by simp⟩ (by simp)
        | ss _ _ _ blk base cap cs hz hl h1 hc hv hlc hf =>
          obtain rfl := hf rfl
          exact grow ⟨blk, base, none⟩ cs ⟨hl, h1, hv⟩ (fun j u hu => by rw [add_at]; exact hc j u hu)
  case s id ver off n es' =>
    dsimp only at hk
    split at hk
    · rename_i v cells ho
      obtain ⟨rfl, rfl, hoff, hbig, hk⟩ := hk
      have hver := h.ver id _ ho
      obtain ⟨blk, bs, at_, cap, cc, t', rfl, hρ, hlc, hb, hsz, ha⟩ := slice_live hver hx
      obtain ⟨cc', t'', hb', hl', h1, hv⟩ := row_inv (h.obj id _ blk bs ho hρ)
      rw [hb] at hb'; cases hb'
      have hbn := bytes_bound hb0 hbig
      by_cases hm : m = 0
      · rw [if_pos hm] at hk
        subst hm
        rw [run_append_none t ty e i ht hi _ _ _ _ hlc]
        exact Done.same h hx hk
      · rw [if_neg hm] at hk
        obtain ⟨ad, rfl⟩ : ∃ ad, a = some ad := by
          cases a with
          | none => exact absurd (hnone rfl) hm
          | some ad => exact ⟨ad, rfl⟩
        have hdl : (cells.drop off).length = n * i.size := by rw [List.length_drop]; omega
        by_cases hroom : n + m ≤ cap
        · have hcapm : (n + m) * i.size ≤ cap * i.size := Nat.mul_le_mul_right _ hroom
          have hadd : (n + m) * i.size = n * i.size + m * i.size := Nat.add_mul _ _ _
          have hat := ha (by omega)
          subst hat
          have hfit : bs + off + n * i.size + news.length ≤ cc.size := by rw [hnl]; omega
          rw [run_append_room' t ty e i ht hi C.w blk (bs + off) n cap cc t' hb ad m capy news hnl (hcell ad rfl) hcr.2.1 hroom hfit]
          have hfit' : bs + off + n * i.size + news.length ≤ cc.toList.length := by simpa using hfit
          have hrow := setRow_heap C.w blk cc (cc.toList.take (bs + off + n * i.size) ++ news ++ cc.toList.drop (bs + off + n * i.size + news.length)).toArray t' (0, 0) hb
          have hsl := splice_len cc.toList news (bs + off + n * i.size) hfit'
          obtain ⟨r1, r2⟩ := h.turn (o' := .row (v + 1) (cells.drop off ++ ys)) (bs' := bs + off) ho hρ (.inr (by simp [O.ver])) (w' := C.w.setRow blk (cc.toList.take (bs + off + n * i.size) ++ news ++ cc.toList.drop (bs + off + n * i.size + news.length)).toArray) rfl rfl rfl (by simp)
            (fun b _ hne => setRow_other _ _ _ _ hne) (fun cc' t'' hc => by rw [hb] at hc; cases hc; exact ⟨_, hrow, by simpa using hsl⟩)
            (fun ex => .row _ _ _ t' hrow (by rw [List.length_append, hdl, hlen]; simp at hsl ⊢; omega) (fun c hc => by
                simp only [List.mem_toArray, List.mem_append] at hc
                rcases hc with (hc | hc) | hc
                · exact h1 c (by simpa using List.mem_of_mem_take hc)
                · exact hcr.2.1 c hc
                · exact h1 c (by simpa using List.mem_of_mem_drop hc)) (fun j x c hx hc => by
                rw [List.getElem?_toArray, splice_get _ _ _ _ hfit'] at hc
                by_cases hj : j < n * i.size
                · rw [List.getElem?_append_left (by omega), List.getElem?_drop] at hx
                  rw [if_neg (by omega)] at hc
                  exact (hv (off + j) x c hx (by rw [← Nat.add_assoc]; simpa using hc)).ext ex h.wf
                · rw [List.getElem?_append_right (by omega), hdl] at hx
                  have hj2 := (List.getElem?_eq_some_iff.1 hx).1
                  rw [if_pos (by rw [hnl]; omega), show bs + off + j - (bs + off + n * i.size) = j - n * i.size by omega] at hc
                  exact (hcr.2.2 _ x c hx hc).ext ex h.wf))
          refine ⟨_, _, _, _, rfl, r1, r2, ?_, hk⟩
          have hlt : id < C.vs.length := (List.getElem?_eq_some_iff.1 hver).1
          have hltρ : id < C.ρ.length := (List.getElem?_eq_some_iff.1 hρ).1
          refine .s id (v + 1) 0 (n + m) _ blk (bs + off) (bs + off) cap _ t' (List.getElem?_set_self hltρ) (List.getElem?_set_self hlt) hroom hrow ?_ (fun _ => rfl)
          simp only [List.size_toArray, hsl, Nat.add_zero]
          simpa using hsz
        · have hco : CR C (cells.drop off) ((cc.toList.drop (bs + off)).take (n * i.size)) := by
            have hns : n * i.size ≤ cap * i.size := Nat.mul_le_mul_right _ hlc
            refine ⟨by simp; omega, fun d hd => h1 d (by simpa using List.mem_of_mem_drop (List.mem_of_mem_take hd)), fun j x d hx hd => ?_⟩
            rw [List.getElem?_take] at hd
            split at hd
            · rw [List.getElem?_drop] at hx hd
              exact hv (off + j) x d hx (by rw [← Nat.add_assoc]; simpa using hd)
            · cases hd
          have holds : ∀ (j : Nat) (u : Value), ((cc.toList.drop (bs + off)).take (n * i.size))[j]? = some u → C.w.cell? ((⟨blk, at_, none⟩ : Addr).add j) = some u := by
            intro j u hu
            rw [List.getElem?_take] at hu
            split at hu
            · rename_i hj
              have hn0 : n ≠ 0 := fun e => by subst e; omega
              rw [List.getElem?_drop] at hu
              rw [add_at, ha (by omega), cell_of hb]
              simpa using hu
            · cases hu
          rw [run_append_grow C.w t ty e i z ht hi hiz ⟨blk, at_, none⟩ n cap _ (by rw [hco.1, hdl]) holds ad m capy news hnl (hcell ad rfl) (by omega) (by omega) (growslice_fits (by omega) hbig)]
          have hge := grownCap_ge C.w (n + m) cap e
          have hall := hco.append hcr
          have hbN : (C.w.drew.alloc (.cells (((cc.toList.drop (bs + off)).take (n * i.size)).toArray ++ news.toArray ++ Builtin.zeroCells z.cells (grownCap C.w (n + m) cap e - (n + m))) e)).heap[C.w.heap.size]? = some (.cells (((cc.toList.drop (bs + off)).take (n * i.size)).toArray ++ news.toArray ++ Builtin.zeroCells z.cells (grownCap C.w (n + m) cap e - (n + m))) e (0, 0)) := heap_alloc_eq C.w.drew _
          have hsizeN : (((cc.toList.drop (bs + off)).take (n * i.size)).toArray ++ news.toArray ++ Builtin.zeroCells z.cells (grownCap C.w (n + m) cap e - (n + m))).size = grownCap C.w (n + m) cap e * i.size := by
            rw [Array.size_append, Array.size_append, size_zeroCells, hzs]
            simp only [List.size_toArray, hco.1, hdl, hnl]
            rw [← Nat.add_mul, ← Nat.add_mul]
            congr 1; omega
          obtain ⟨r1, r2⟩ := h.move (o' := .row (v + 1) (cells.drop off ++ ys)) ho (by simp [O.ver]) (w' := C.w.drew.alloc (.cells (((cc.toList.drop (bs + off)).take (n * i.size)).toArray ++ news.toArray ++ Builtin.zeroCells z.cells (grownCap C.w (n + m) cap e - (n + m))) e))
            rfl rfl rfl (by simp) (fun b hb => heap_alloc_lt C.w.drew _ hb)
            (fun ex => .row _ _ _ e hbN (by
                rw [hsizeN, List.length_append, hdl, hlen, Nat.zero_add, ← Nat.add_mul]
                exact Nat.mul_le_mul_right _ hge) (fun c hc => by
                simp only [Array.mem_append] at hc
                rcases hc with (hc | hc) | hc
                · exact hco.2.1 c (by simpa using hc)
                · exact hcr.2.1 c (by simpa using hc)
                · exact zeroCells_one hzb _ c hc) (fun j x c hx hc => by
                have hj := (List.getElem?_eq_some_iff.1 hx).1
                have hal := hall.1
                rw [Nat.zero_add, Array.getElem?_append_left (by simp at hj hal ⊢; omega)] at hc
                exact (hall.2.2 j x c hx (by simpa using hc)).ext ex h.wf))
          refine ⟨_, _, _, _, rfl, r1, r2, ?_, hk⟩
          have hlt : id < C.vs.length := (List.getElem?_eq_some_iff.1 hver).1
          have hltρ : id < C.ρ.length := (List.getElem?_eq_some_iff.1 hρ).1
          exact .s id (v + 1) 0 (n + m) _ C.w.heap.size 0 0 _ _ e (List.getElem?_set_self hltρ) (List.getElem?_set_self hlt) hge hbN (by rw [hsizeN]; omega) (fun _ => rfl)
    · exact hk.elim
  all_goals exact False.elim hk

/-! ### clear, copy -/
theorem clr_sound (h : R C σ) {x : V} {c : Value} (hx : VR C x c) {t e ty : TypeId} {es : Nat} (ht : P.underlying t = some (.slice e)) (hs : szP P e = some es) {zs : List V} (hz : zcP P e = some zs) (hzl : zs.length = es)
    {K : V → List O → Prop} (hk : clrK es zs x σ K) : Done C K ((Builtin.clear_ #[t] ty #[c]).run P C.w) := by
  obtain ⟨z, hzr, hza, hzb, hzc, -⟩ := zcP_sound hz C
  have hzs : z.cells.size = es := by rw [hza, hzl]
  cases x <;> simp only [clrK] at hk
  case s id ver off n es' =>
    split at hk
    · rename_i v cells ho
      obtain ⟨rfl, rfl, hoff, hk⟩ := hk
      have hver := h.ver id _ ho
      obtain ⟨blk, bs, at_, cap, cc, t', rfl, hρ, hlc, hb, hsz, ha⟩ := slice_live hver hx
      obtain ⟨cc', t'', hb', hl', h1, hv⟩ := row_inv (h.obj id _ blk bs ho hρ)
      rw [hb] at hb'; cases hb'
      by_cases hn : n = 0
      · subst hn
        have : (Builtin.clear_ #[t] ty #[.slice (some ⟨blk, at_, none⟩) 0 cap]).run P C.w = .ok (.tuple #[]) C.w := by simp [Builtin.clear_, run_underlying ht]
        rw [this]
        refine Done.same h (.u _) ?_
        have e1 : splice cells off (rep 0 zs) = cells := by simp [splice, rep]
        rw [e1] at hk
        have e2 : σ.set id (.row v cells) = σ := by
          apply List.ext_getElem?
          intro j
          by_cases hj : j = id
          · subst hj; rw [List.getElem?_set_self (List.getElem?_eq_some_iff.1 ho).1, ho]
          · rw [List.getElem?_set_ne (fun e => hj e.symm)]
        rwa [e2] at hk
      · have hat := ha (by omega)
        subst hat
        have hcr := zeros_cr (C := C) hza hzb hzc n
        rw [hzs] at hcr
        have hzc' : (Builtin.zeroCells z.cells n).toList = ((Array.range (n * es)).map (z.cells[· % es]!)).toList := by simp only [Builtin.zeroCells, hzs]
        rw [← hzc'] at hcr
        have hrl : (rep n zs).length = n * es := by rw [rep_len, hzl]
        have hlc' : (Builtin.zeroCells z.cells n).toList.length = n * es := by rw [hcr.1, hrl]
        have hst := run_storeCells_at P blk (bs + off) t' (Builtin.zeroCells z.cells n).toList 0 cc C.w hb (by rw [hlc']; omega) hcr.2.1
        rw [Nat.add_zero] at hst
        have : (Builtin.clear_ #[t] ty #[.slice (some ⟨blk, bs + off, none⟩) n cap]).run P C.w = .ok (.tuple #[]) (C.w.setRow blk (cc.toList.take (bs + off) ++ (Builtin.zeroCells z.cells n).toList ++ cc.toList.drop (bs + off + (Builtin.zeroCells z.cells n).toList.length)).toArray) := by
          obtain ⟨k, rfl⟩ : ∃ k, n = k + 1 := ⟨n - 1, by omega⟩
          obtain ⟨W', hW'⟩ : ∃ W', C.w.setRow blk (cc.toList.take (bs + off) ++ (Builtin.zeroCells z.cells (k + 1)).toList ++ cc.toList.drop (bs + off + (Builtin.zeroCells z.cells (k + 1)).toList.length)).toArray = W' := ⟨_, rfl⟩
          rw [hW'] at hst ⊢
          simp [Builtin.clear_, run_underlying ht, hzr, hst]
        rw [this]
        obtain ⟨r1, r2⟩ := write_row h ho hρ hb hl' h1 hv hcr (off := off) (by omega)
        exact ⟨_, _, .u, _, rfl, r1, r2, .u _, hk⟩
    · exact hk.elim
  case ss cells n full =>
    cases cells with
    | cons _ _ => exact False.elim hk
    | nil =>
      cases n with
      | succ n => exact False.elim hk
      | zero =>
        have key : ∀ a cap, (Builtin.clear_ #[t] ty #[.slice a 0 cap]).run P C.w = .ok (.tuple #[]) C.w := fun a cap => by
          cases a <;> simp [Builtin.clear_, run_underlying ht]
        cases hx with
        | ss0 a cap => rw [key]; exact Done.same h (.u _) hk
        | ssn a => rw [key]; exact Done.same h (.u _) hk
        | ss => rw [key]; exact Done.same h (.u _) hk
  all_goals exact hk.elim

theorem cpy_sound (h : R C σ) {d s : V} {cd cs : Value} (hd : VR C d cd) (hs : VR C s cs) {t t2 e ty : TypeId} {es : Nat} (ht : P.underlying t = some (.slice e)) (hsz : szP P e = some es)
    {K : V → List O → Prop} (hk : cpyK es d s σ K) : Done C K ((Builtin.copy_ #[t, t2] ty #[cd, cs]).run P C.w) := by
  unfold cpyK at hk
  obtain ⟨a, capy, m, ys, news, rfl, hcr, hlen, hcell, hnone, hk'⟩ := rowOf_sound h hs hk
  clear hk
  have hk := hk'
  clear hk'
  have hnl : news.length = m * es := by rw [hcr.1, hlen]
  cases d
  case s id ver off n es' =>
    dsimp only at hk
    split at hk
    · rename_i v cells ho
      obtain ⟨rfl, rfl, hoff, hk⟩ := hk
      have hver := h.ver id _ ho
      obtain ⟨blk, bs, at_, cap, cc, t', rfl, hρ, hlc, hb, hszc, ha⟩ := slice_live hver hd
      obtain ⟨cc', t'', hb', hl', h1, hv⟩ := row_inv (h.obj id _ blk bs ho hρ)
      rw [hb] at hb'; cases hb'
      have hcr' : CR C (ys.take (min m n * es)) (news.take (min m n * es)) := by
        refine ⟨by simp [hcr.1], fun c hc => hcr.2.1 c (List.mem_of_mem_take hc), fun j x c hx hc => ?_⟩
        rw [List.getElem?_take] at hx hc
        split at hx
        · rename_i hj; rw [if_pos hj] at hc; exact hcr.2.2 j x c hx hc
        · cases hx
      have hmn : min m n * es ≤ m * es := Nat.mul_le_mul_right _ (Nat.min_le_left _ _)
      have hmn2 : min m n * es ≤ n * es := Nat.mul_le_mul_right _ (Nat.min_le_right _ _)
      have hln : (news.take (min m n * es)).length = min m n * es := by rw [List.length_take, hnl]; omega
      have hfc : (Builtin.firstCells es (min m n) (.slice a m capy)).run P C.w = .ok (news.take (min m n * es)).toArray C.w := by
        cases a with
        | none =>
          have := hnone rfl
          subst this
          have : news = [] := List.eq_nil_of_length_eq_zero (by rw [hnl]; simp)
          subst this
          simp [Builtin.firstCells]
        | some ad =>
          have := run_firstCells_some (P := P) C.w es (min m n) ad m capy (news.take (min m n * es)) hln (fun j u hu => by
            rw [List.getElem?_take] at hu
            split at hu
            · exact hcell ad rfl j u hu
            · cases hu)
          exact this
      by_cases hz : min m n * es = 0
      · have hnil : news.take (min m n * es) = [] := List.eq_nil_of_length_eq_zero (by rw [hln, hz])
        have : (Builtin.copy_ #[t, t2] ty #[.slice (some ⟨blk, at_, none⟩) n cap, .slice a m capy]).run P C.w = .ok (.int .i64 (min m n : Nat)) C.w := by
          have e0 : Nat.min m n = min m n := rfl
          simp [Builtin.copy_, run_underlying ht, Builtin.lenOf, run_sizeOf hsz, e0, hfc, hnil, storeCells, goInt]
        rw [this]
        refine Done.same h (.i _ _) ?_
        have e1 : splice cells off (ys.take (min m n * es)) = cells := by rw [hz]; simp [splice]
        rw [e1] at hk
        have e2 : σ.set id (.row v cells) = σ := by
          apply List.ext_getElem?
          intro j
          by_cases hj : j = id
          · subst hj; rw [List.getElem?_set_self (List.getElem?_eq_some_iff.1 ho).1, ho]
          · rw [List.getElem?_set_ne (fun e => hj e.symm)]
        rwa [e2] at hk
      · have hn0 : n ≠ 0 := fun e => by subst e; simp at hz
        have hat := ha (by omega)
        subst hat
        have hst := run_storeCells_at P blk (bs + off) t' (news.take (min m n * es)) 0 cc C.w hb (by rw [hln]; omega) hcr'.2.1
        rw [Nat.add_zero] at hst
        have : (Builtin.copy_ #[t, t2] ty #[.slice (some ⟨blk, bs + off, none⟩) n cap, .slice a m capy]).run P C.w = .ok (.int .i64 (min m n : Nat)) (C.w.setRow blk (cc.toList.take (bs + off) ++ news.take (min m n * es) ++ cc.toList.drop (bs + off + (news.take (min m n * es)).length)).toArray) := by
          have e0 : Nat.min m n = min m n := rfl
          obtain ⟨W', hW'⟩ : ∃ W', C.w.setRow blk (cc.toList.take (bs + off) ++ news.take (min m n * es) ++ cc.toList.drop (bs + off + (news.take (min m n * es)).length)).toArray = W' := ⟨_, rfl⟩
          rw [hW'] at hst ⊢
          simp [Builtin.copy_, run_underlying ht, Builtin.lenOf, run_sizeOf hsz, e0, hfc, hst, goInt]
        rw [this]
        obtain ⟨r1, r2⟩ := write_row h ho hρ hb hl' h1 hv hcr' (off := off) (by have := hcr'.1; omega)
        exact ⟨_, _, _, _, rfl, r1, r2, .i _ _, hk⟩
    · exact hk.elim
  case ss cells n full =>
    cases cells with
    | cons _ _ => exact False.elim hk
    | nil =>
      cases n with
      | succ n => exact False.elim hk
      | zero =>
        have key : ∀ x0 cap, (Builtin.copy_ #[t, t2] ty #[.slice x0 0 cap, .slice a m capy]).run P C.w = .ok (.int .i64 0) C.w := fun x0 cap => by
          cases x0 <;> cases a <;> simp [Builtin.copy_, run_underlying ht, Builtin.lenOf, run_sizeOf hsz, Builtin.firstCells, loadCells, loadCellsFrom, storeCells, goInt]
        cases hd with
        | ss0 a cap => rw [key]; exact Done.same h (.i _ _) hk
        | ssn a => rw [key]; exact Done.same h (.i _ _) hk
        | ss => rw [key]; exact Done.same h (.i _ _) hk
  all_goals exact False.elim hk

/-! ### Greatest, least -/
theorem mx_sound (h : R C σ) {xs : List V} {cs : List Value} (hv : VRl C xs cs) {f : Int → Int → Int} {f2 : Value → Value → Sem Value} (hf : ∀ k a k' b, f2 (.int k a) (.int k' b) = pure (.int k (f a b)))
    {K : V → Prop} (hk : mxK f xs K) (r : Sem Value) (hr : ∀ c ds, cs = c :: ds → r = ds.foldlM f2 c) : Done C (fun v σ' => σ' = σ ∧ K v) (r.run P C.w) := by
  unfold mxK at hk
  split at hk
  · rename_i k a l
    split at hk
    · rename_i ns hn
      cases cs with
      | nil => have := hv.1; simp at this
      | cons c ds =>
        obtain rfl := int_inv (hv.2 0 _ _ rfl rfl)
        rw [hr _ _ rfl]
        obtain ⟨hl, hq⟩ := intsOf_sound hn (by have := hv.1; simpa using this) (fun j x d hx hd => hv.2 (j + 1) x d (by simpa using hx) (by simpa using hd))
        have : ∀ (ds : List Value) (ns : List Int) (a : Int), ns.length = ds.length → (∀ (j : Nat) (c : Value), ds[j]? = some c → ∃ k n, c = .int k n ∧ ns[j]? = some n) →
            (ds.foldlM f2 (.int k a)).run P C.w = .ok (.int k (ns.foldl f a)) C.w := by
          intro ds
          induction ds with
          | nil => intro ns a hl _; have : ns = [] := List.eq_nil_of_length_eq_zero hl; subst this; simp
          | cons d ds ih =>
            intro ns a hl hq
            cases ns with
            | nil => simp at hl
            | cons n ns =>
              obtain ⟨k', n', rfl, hn'⟩ := hq 0 d rfl
              simp at hn'; subst hn'
              rw [List.foldlM_cons, hf]
              simp only [pure_bind, List.foldl_cons]
              exact ih ns _ (by simpa using hl) (fun j c hc => hq (j + 1) c (by simpa using hc))
        rw [this ds ns a hl hq]
        exact Done.same h (.i _ _) ⟨rfl, hk⟩
    · exact hk.elim
  · exact hk.elim

end
end Go.Ab
