/- The abstract layer, part 4: building, stores, slices, append, copy, numbers. -/
import Derived.Test.YtchmfamkpfaieaaAb3
set_option linter.unusedVariables false
set_option linter.unusedSimpArgs false
namespace Go.Ab
open Go

section
variable {P : Program} {C : Cx} {σ : List O}

/-! ### Building -/
theorem run_places : ∀ (l : List Field), (l.all (fun f => (szP P f.type).isSome)) = true → ∀ w,
    (l.mapM (fun f => do pure (f.offset, ← sizeOf f.type) : Field → Sem (Nat × Nat))).run P w = .ok (l.map fun f => (f.offset, (szP P f.type).getD 0)) w
  | [], _, w => by simp
  | f :: l, h, w => by
    simp only [List.all_cons, Bool.and_eq_true] at h
    obtain ⟨n, hn⟩ := Option.isSome_iff_exists.1 h.1
    simp only [List.mapM_cons, Sem.run_bind, run_sizeOf hn, Result.andThen_ok, Sem.run_pure, run_places l h.2 w]
    simp [hn]

theorem build_struct (h : R C σ) {t : TypeId} {fs : Array Field} (ht : P.underlying t = some (.struct fs)) (hall : (fs.toList.all (fun f => (szP P f.type).isSome)) = true)
    {zs : List V} (hz : zcP P t = some zs) {ps : List (Nat × Nat × V)} {qs : List (Nat × Value)} (hl : ps.length = qs.length)
    (hp : ∀ (j : Nat) (o s : Nat) (x : V) (i : Nat) (c : Value), ps[j]? = some (o, s, x) → qs[j]? = some (i, c) → (∃ f, fs[i]? = some f ∧ f.offset = o ∧ szP P f.type = some s) ∧ VR C x c)
    {cs : List V} (hf : fillV zs ps = some cs) {K : V → List O → Prop} (hk : K (.agg cs) σ) : Done C K ((Instr.build t qs.toArray).run P C.w) := by
  obtain ⟨z, hr, a, b, c, -⟩ := zcP_sound hz C
  have hpl := run_places (P := P) fs.toList hall
  have hm : ∀ w, (fs.mapM (fun f => do pure (f.offset, ← sizeOf f.type) : Field → Sem (Nat × Nat))).run P w = .ok ((fs.toList.map fun f => (f.offset, (szP P f.type).getD 0)).toArray) w := by
    intro w
    have e : fs = fs.toList.toArray := by simp
    rw [e, List.mapM_toArray]
    simp only [Sem.run_map, hpl w, Result.andThen_ok]
  obtain ⟨out, ho, hout⟩ := fill_sound (C := C) trivial ps qs ((fs.toList.map fun f => (f.offset, (szP P f.type).getD 0)).toArray[·]?) zs cs z.cells hl
    (fun j o s x i c hj hq => by
      obtain ⟨⟨f, hfi, h1, h2⟩, hx⟩ := hp j o s x i c hj hq
      refine ⟨?_, hx⟩
      have : fs.toList[i]? = some f := by simpa using hfi
      simp [this, hfi, h1, h2])
    ⟨by simpa using a, fun d hd => b d (by simpa using hd), fun j x d hx hd => c j x d hx (by simpa using hd)⟩ hf
  have : (Instr.build t qs.toArray).run P C.w = .ok (.agg out) C.w := by
    simp only [Instr.build, Sem.run_bind, hr, Result.andThen_ok, run_underlying ht, hm, List.toList_toArray]
    rw [ho]
    simp
  rw [this]
  exact Done.same h (.agg cs out (by have := hout.1; simpa using this) (fun c hc => hout.2.1 c (by simpa using hc)) (fun j x c hx hc => hout.2.2 j x c hx (by simpa using hc))) hk

theorem build_array (h : R C σ) {t e : TypeId} {n sz : Nat} (ht : P.underlying t = some (.array n e)) (hs : szP P e = some sz)
    {zs : List V} (hz : zcP P t = some zs) {ps : List (Nat × Nat × V)} {qs : List (Nat × Value)} (hl : ps.length = qs.length)
    (hp : ∀ (j : Nat) (o s : Nat) (x : V) (i : Nat) (c : Value), ps[j]? = some (o, s, x) → qs[j]? = some (i, c) → (o = i * sz ∧ s = sz) ∧ VR C x c)
    {cs : List V} (hf : fillV zs ps = some cs) {K : V → List O → Prop} (hk : K (.agg cs) σ) : Done C K ((Instr.build t qs.toArray).run P C.w) := by
  obtain ⟨z, hr, a, b, c, -⟩ := zcP_sound hz C
  obtain ⟨out, ho, hout⟩ := fill_sound (C := C) trivial ps qs (fun i => some (i * sz, sz)) zs cs z.cells hl
    (fun j o s x i c hj hq => by
      obtain ⟨⟨h1, h2⟩, hx⟩ := hp j o s x i c hj hq
      exact ⟨by rw [h1, h2], hx⟩)
    ⟨by simpa using a, fun d hd => b d (by simpa using hd), fun j x d hx hd => c j x d hx (by simpa using hd)⟩ hf
  have : (Instr.build t qs.toArray).run P C.w = .ok (.agg out) C.w := by
    simp only [Instr.build, Sem.run_bind, hr, Result.andThen_ok, run_underlying ht, run_sizeOf hs, List.toList_toArray]
    rw [ho]
    simp
  rw [this]
  exact Done.same h (.agg cs out (by have := hout.1; simpa using this) (fun c hc => hout.2.1 c (by simpa using hc)) (fun j x c hx hc => hout.2.2 j x c hx (by simpa using hc))) hk

theorem rep_len (n : Nat) (zs : List V) : (rep n zs).length = n * zs.length := by
  induction n with
  | zero => simp [rep]
  | succ n ih => simp only [rep, List.replicate_succ, List.flatten_cons, List.length_append] at *; rw [ih, Nat.succ_mul, Nat.add_comm]

theorem rep_get (n : Nat) (zs : List V) (j : Nat) (h : j < n * zs.length) : (rep n zs)[j]? = zs[j % zs.length]? := by
  induction n generalizing j with
  | zero => omega
  | succ n ih =>
    show (zs ++ rep n zs)[j]? = _
    by_cases hj : j < zs.length
    · rw [List.getElem?_append_left hj, Nat.mod_eq_of_lt hj]
    · have h1 : j - zs.length < n * zs.length := by rw [Nat.succ_mul] at h; omega
      rw [List.getElem?_append_right (by omega), ih _ h1]
      congr 1
      rw [← Nat.mod_eq_sub_mod (by omega)]

/-- Zero cells, so many times. -/
theorem zeros_cr {zs : List V} {z : Array Value} (a : z.size = zs.length) (b : ∀ c ∈ z, one1 c = true) (c : ∀ (j : Nat) (x : V) (c : Value), zs[j]? = some x → z[j]? = some c → VR C x c) (n : Nat) :
    CR C (rep n zs) ((Array.range (n * z.size)).map (z[· % z.size]!)).toList := by
  have key : ∀ j, j < n * z.size → 0 < z.size := fun j hj => by
    rcases Nat.eq_zero_or_pos z.size with h0 | h0
    · rw [h0] at hj; omega
    · exact h0
  have hg : ∀ (j : Nat) (d : Value), ((Array.range (n * z.size)).map (z[· % z.size]!)).toList[j]? = some d → j < n * z.size ∧ z[j % z.size]? = some d := by
    intro j d hd
    simp only [Array.toList_map, Array.toList_range, List.getElem?_map, Option.map_eq_some_iff] at hd
    obtain ⟨i, hi, rfl⟩ := hd
    obtain ⟨hlt, rfl⟩ := List.getElem?_eq_some_iff.1 hi
    simp at hlt
    have hz := key j hlt
    have hm := Nat.mod_lt j hz
    refine ⟨hlt, ?_⟩
    simp [getElem!_pos, hm]
  refine ⟨by simp [rep_len, a], fun d hd => ?_, fun j x d hx hd => ?_⟩
  · obtain ⟨j, hj⟩ := List.mem_iff_getElem?.1 hd
    obtain ⟨h1, h2⟩ := hg j d hj
    exact b d (Array.mem_of_getElem? h2)
  · obtain ⟨h1, h2⟩ := hg j d hd
    rw [rep_get n zs j (by rw [← a]; exact h1)] at hx
    exact c _ x d hx (by rw [← a]; exact h2)

theorem bsl_sound (h : R C σ) {t e : TypeId} {sz len : Nat} (ht : P.underlying t = some (.slice e)) (hs : szP P e = some sz) {z : List V} (hz : zcP P e = some z) (hzl : z.length = sz)
    (hbig : len * sz ≤ 16777216) {ps : List (Nat × Nat × V)} {qs : List (Nat × Value)} (hl : ps.length = qs.length)
    (hp : ∀ (j : Nat) (o s : Nat) (x : V) (i : Nat) (c : Value), ps[j]? = some (o, s, x) → qs[j]? = some (i, c) → (o = i * sz ∧ s = sz) ∧ VR C x c)
    {cs : List V} (hf : fillV (rep len z) ps = some cs) (frz : Bool) {K : V → List O → Prop}
    (hk : if frz then K (.ss cs len true) σ else K (.s σ.length 0 0 len sz) (σ ++ [.row 0 cs])) : Done C K ((Instr.buildSlice t len qs.toArray).run P C.w) := by
  obtain ⟨zv, hr, a, b, c, -⟩ := zcP_sound hz C
  have hzs : zv.cells.size = sz := by rw [a, hzl]
  have hcr := zeros_cr (C := C) a b c len
  rw [hzs] at hcr
  obtain ⟨out, ho, hout⟩ := fill_sound (C := C) trivial ps qs (fun i => some (i * sz, sz)) (rep len z) cs ((Array.range (len * sz)).map (zv.cells[· % sz]!)) hl
    (fun j o s x i c hj hq => by
      obtain ⟨⟨h1, h2⟩, hx⟩ := hp j o s x i c hj hq
      exact ⟨by rw [h1, h2], hx⟩) hcr hf
  have hoe : out = out.toList.toArray := by simp
  have hrun : (Instr.buildSlice t len qs.toArray).run P C.w = .ok (.slice (some ⟨C.w.heap.size, 0, none⟩) len len) (C.w.alloc (.cells out.toList.toArray e)) := by
    simp only [Instr.buildSlice, Sem.run_bind, run_underlying ht, Result.andThen_ok, run_sizeOf hs]
    rw [if_neg (by simp; omega)]
    by_cases h0 : len * sz = 0
    · rw [h0] at ho
      simp only [h0, if_true, Sem.run_bind, Sem.run_pure, Result.andThen_ok, List.toList_toArray]
      have : (Array.range 0).map ((#[] : Array Value)[· % (#[] : Array Value).size]!) = (Array.range 0).map (zv.cells[· % sz]!) := by simp
      rw [this, ho]
      simp [newRow]
    · simp only [h0, if_false, Sem.run_bind, hr, Sem.run_pure, Result.andThen_ok, List.toList_toArray, hzs]
      rw [ho]
      simp [newRow]
  rw [hrun]
  have hlen : cs.length = len * sz := by
    have h1 := hout.1
    have h2 := hcr.1
    have h3 : ∀ (ps : List (Nat × Nat × V)) (zs cs : List V), fillV zs ps = some cs → cs.length = zs.length := by
      intro ps
      induction ps with
      | nil => intro zs cs hf; simp [fillV] at hf; rw [hf]
      | cons p ps ih =>
        intro zs cs hf
        simp only [fillV] at hf
        split at hf
        · split at hf
          · rename_i hc
            rw [ih _ _ hf]
            unfold splice
            exact splice_len _ _ _ (by omega)
          · cases hf
        · cases hf
    rw [h3 _ _ _ hf, rep_len, hzl]
  cases frz with
  | true =>
    simp only [if_true] at hk
    have hb : (C.allocZ (.cells out.toList.toArray e)).w.heap[C.w.heap.size]? = some (.cells out.toList.toArray e (0, 0)) := heap_alloc_eq _ _
    refine ⟨_, C.allocZ (.cells out.toList.toArray e), .ss cs len true, σ, rfl, h.allocZ _, allocZ_ext h.wf _, ?_, hk⟩
    refine .ss cs len true C.w.heap.size 0 len out.toList (.inr rfl) hout.1 hout.2.1 (fun j u hj => ?_) (fun j x u hx hj => (hout.2.2 j x u hx hj).ext (allocZ_ext h.wf _) h.wf) (Nat.le_refl _) (fun _ => rfl)
    rw [cell_of hb]; simpa using hj
  | false =>
    simp only [Bool.false_eq_true, if_false] at hk
    obtain ⟨r1, r2, r3, r4, r5⟩ := new_row h e hout.1 hout.2.1 hout.2.2
    refine ⟨_, C.alloc (.cells out.toList.toArray e), _, _, rfl, r1, r2, ?_, hk⟩
    refine .s _ _ _ _ _ C.w.heap.size 0 0 len out.toList.toArray e r3 r4 (Nat.le_refl _) r5 ?_ (fun _ => rfl)
    have := hout.1
    simp only [List.size_toArray]
    omega

/-! ### Stores -/
theorem write_row (h : R C σ) {id ver off blk bs : Nat} {cells : List V} (ho : σ[id]? = some (.row ver cells)) (hρ : C.ρ[id]? = some (blk, bs)) {cc : Array Value} {t : TypeId}
    (hb : C.w.heap[blk]? = some (.cells cc t (0, 0))) (hl : bs + cells.length ≤ cc.size) (h1 : ∀ c ∈ cc, one1 c = true)
    (hv : ∀ (j : Nat) (x : V) (c : Value), cells[j]? = some x → cc[bs + j]? = some c → VR C x c) {xs : List V} {cs : List Value} (hcr : CR C xs cs) (hoff : off + xs.length ≤ cells.length) :
    R (C.turn id blk bs ver (C.w.setRow blk (cc.toList.take (bs + off) ++ cs ++ cc.toList.drop (bs + off + cs.length)).toArray)) (σ.set id (.row ver (splice cells off xs))) ∧
    Ext C (C.turn id blk bs ver (C.w.setRow blk (cc.toList.take (bs + off) ++ cs ++ cc.toList.drop (bs + off + cs.length)).toArray)) := by
  have hlc : bs + off + cs.length ≤ cc.toList.length := by have := hcr.1; simp; omega
  have hsz := splice_len cc.toList cs (bs + off) hlc
  have hb' := setRow_heap C.w blk cc (cc.toList.take (bs + off) ++ cs ++ cc.toList.drop (bs + off + cs.length)).toArray t (0, 0) hb
  refine h.turn (o' := .row ver (splice cells off xs)) ho hρ (.inl ⟨rfl, rfl⟩) rfl rfl rfl (by simp) (fun b _ hne => setRow_other _ _ _ _ hne) (fun cc' t' hc => ?_) (fun e => ?_)
  · rw [hb] at hc; cases hc
    exact ⟨_, hb', by simpa using hsz⟩
  · refine .row ver _ _ t hb' ?_ (fun c hc => ?_) (fun j x c hx hc => ?_)
    · unfold splice; rw [splice_len _ _ _ hoff]; simp at hsz ⊢; omega
    · simp only [List.mem_toArray, List.mem_append] at hc
      rcases hc with (hc | hc) | hc
      · exact h1 c (by simpa using List.mem_of_mem_take hc)
      · exact hcr.2.1 c hc
      · exact h1 c (by simpa using List.mem_of_mem_drop hc)
    · unfold splice at hx
      rw [splice_get _ _ _ _ hoff] at hx
      rw [List.getElem?_toArray, splice_get _ _ _ _ hlc, hcr.1] at hc
      split at hx
      · rename_i hj
        rw [if_pos (by omega), show bs + j - (bs + off) = j - off by omega] at hc
        exact (hcr.2.2 _ x c hx hc).ext e h.wf
      · rename_i hj
        rw [if_neg (by omega)] at hc
        exact (hv j x c hx (by simpa using hc)).ext e h.wf

theorem run_storeAt {t : TypeId} {n : Nat} (hn : szP P t = some n) {w : World} {blk o : Nat} {c : Value} (hs : c.cells.size = n) {cc : Array Value} {t' : TypeId}
    (hb : w.heap[blk]? = some (.cells cc t' (0, 0))) (hl : o + n ≤ cc.size) (h1 : ∀ d ∈ c.cells, one1 d = true) :
    (Instr.storeAt t (.pointer (some ⟨blk, o, none⟩)) c).run P w = .ok () (w.setRow blk (cc.toList.take o ++ c.cells.toList ++ cc.toList.drop (o + c.cells.toList.length)).toArray) := by
  have hst := run_storeCells_at P blk o t' c.cells.toList 0 cc w hb (by simp; omega) (fun v hv => h1 v (by simpa using hv))
  simp only [Instr.storeAt, Instr.sureAddr, Sem.run_bind, Sem.run_pure, Result.andThen_ok, storeVar, run_sizeOf hn]
  rw [if_neg (by simpa using hs)]
  simpa using hst

def DoneU (C : Cx) (K : V → List O → Prop) (r : Result Unit) : Prop :=
  ∃ C' σ', r = .ok () C'.w ∧ R C' σ' ∧ Ext C C' ∧ K .u σ'

theorem st1_sound (h : R C σ) {a x : V} {ca cx : Value} (ha : VR C a ca) (hx : VR C x cx) {K : V → List O → Prop} (hk : st1K a x σ K) {t : TypeId} (hn : szP P t = some 1) :
    DoneU C K ((Instr.storeAt t ca cx).run P C.w) := by
  cases a <;> simp only [st1K] at hk
  case p id ver off =>
    split at hk
    · rename_i v cells ho
      obtain ⟨rfl, hoff, hc1, hk⟩ := hk
      obtain ⟨blk, bs, cc, t', rfl, hρ, hb, hl, h1, hv⟩ := ptr_row h ho ha
      obtain ⟨p1, p2, p3⟩ := hx.cells hc1
      have hcr : CR C [x] cx.cells.toList := ⟨by simpa using p1, fun d hd => p2 d (by simpa using hd), fun j y d hy hd => p3 j y d hy (by simpa using hd)⟩
      rw [run_storeAt hn (by simpa using p1) hb (by omega) p2]
      obtain ⟨r1, r2⟩ := write_row h ho hρ hb hl h1 hv hcr (off := off) (by simp; omega)
      refine ⟨_, _, rfl, r1, r2, ?_⟩
      have : splice cells off [x] = cells.set off x := by
        apply List.ext_getElem?
        intro j
        unfold splice
        rw [splice_get _ _ _ _ (by simp; omega)]
        by_cases hj : j = off
        · subst hj; simp [hoff]
        · rw [if_neg (by simp; omega), List.getElem?_set_ne (fun e => hj e.symm)]
      rw [this]; exact hk
    · exact hk.elim
  all_goals exact hk.elim

theorem stA_sound (h : R C σ) {n : Nat} {a x : V} {ca cx : Value} (ha : VR C a ca) (hx : VR C x cx) {K : V → List O → Prop} (hk : stAK n a x σ K) {t : TypeId} (hn : szP P t = some n) :
    DoneU C K ((Instr.storeAt t ca cx).run P C.w) := by
  cases a <;> simp only [stAK] at hk
  case p id ver off =>
    cases x <;> simp only at hk
    case agg xs =>
      split at hk
      · rename_i v cells ho
        obtain ⟨rfl, hlen, hoff, hk⟩ := hk
        obtain ⟨blk, bs, cc, t', rfl, hρ, hb, hl, h1, hv⟩ := ptr_row h ho ha
        obtain ⟨p1, p2, p3⟩ := hx.cells rfl
        have hcr : CR C xs cx.cells.toList := ⟨by simpa using p1, fun d hd => p2 d (by simpa using hd), fun j y d hy hd => p3 j y d hy (by simpa using hd)⟩
        rw [run_storeAt hn (by omega) hb (by omega) p2]
        obtain ⟨r1, r2⟩ := write_row h ho hρ hb hl h1 hv hcr (off := off) (by omega)
        exact ⟨_, _, rfl, r1, r2, hk⟩
      · exact hk.elim
    all_goals exact hk.elim
  all_goals exact hk.elim

end
end Go.Ab
