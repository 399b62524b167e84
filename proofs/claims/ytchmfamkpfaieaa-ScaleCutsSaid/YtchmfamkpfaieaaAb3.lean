/- The abstract layer, part 3: each operation does to the machine's values and world what it does to the abstract ones. -/
import Derived.Test.YtchmfamkpfaieaaAb2
set_option linter.unusedVariables false
set_option linter.unusedSimpArgs false
namespace Go.Ab
open Go

/-! ### Small facts -/
theorem add_at (b o n : Nat) : (⟨b, o, none⟩ : Addr).add n = ⟨b, o + n, none⟩ := by unfold Addr.add; split <;> simp_all
theorem add_at' (b o n : Nat) : (⟨b, o, none⟩ : Addr).add n = ⟨b, o + n, none⟩ := add_at b o n

theorem cellsOf_one {x : V} (h : cellsOf x = some [x]) {C : Cx} {c : Value} (hv : VR C x c) : one1 c = true := by
  cases hv <;> first | rfl | (simp [cellsOf] at h; done) | (cases h; done) | assumption | skip
  all_goals (simp [cellsOf] at h)

theorem VR.cells {x : V} {xs : List V} (h : cellsOf x = some xs) {C : Cx} {c : Value} (hv : VR C x c) :
    c.cells.size = xs.length ∧ (∀ d ∈ c.cells, one1 d = true) ∧ ∀ (j : Nat) (y : V) (d : Value), xs[j]? = some y → c.cells[j]? = some d → VR C y d := by
  have single : ∀ {x : V} {c : Value}, VR C x c → one1 c = true → c.cells.size = [x].length ∧ (∀ d ∈ c.cells, one1 d = true) ∧ ∀ (j : Nat) (y : V) (d : Value), [x][j]? = some y → c.cells[j]? = some d → VR C y d := by
    intro x c hv h1
    have e : c.cells = #[c] := by cases c <;> first | rfl | (simp [one1, Value.oneCell'] at h1)
    rw [e]
    refine ⟨rfl, by simpa using h1, fun j y d hy hd => ?_⟩
    cases j with
    | zero => simp at hy hd; subst hy; subst hd; exact hv
    | succ j => simp at hy
  cases x <;> simp only [cellsOf, Option.some.injEq, reduceCtorEq] at h
  case agg cs =>
    subst h
    cases hv with
    | agg _ cs' hl h1 hv => exact ⟨hl, h1, hv⟩
  all_goals
    subst h
    exact single hv (cellsOf_one (by rfl) hv)

/-- What a value's run leaves. -/
def Done (C : Cx) (K : V → List O → Prop) (r : Result Value) : Prop :=
  ∃ cv C' v σ', r = .ok cv C'.w ∧ R C' σ' ∧ Ext C C' ∧ VR C' v cv ∧ K v σ'

theorem Done.same {C : Cx} {σ : List O} (h : R C σ) {K : V → List O → Prop} {v : V} {cv : Value} (hv : VR C v cv) (hk : K v σ) : Done C K (.ok cv C.w) :=
  ⟨cv, C, v, σ, rfl, h, Ext.refl C, hv, hk⟩

theorem get_ok {α : Type} {l : List α} {j : Nat} (h : j < l.length) (d : α) : l[j]? = some (l.getD j d) := by
  simp [List.getD, List.getElem?_eq_getElem h]

/-! ### Loads -/
section
variable {P : Program} {C : Cx} {σ : List O}

theorem row_inv {blk bs ver : Nat} {cells : List V} (h : OR C blk bs (.row ver cells)) : ∃ cc t, C.w.heap[blk]? = some (.cells cc t (0, 0)) ∧ bs + cells.length ≤ cc.size ∧
    (∀ c ∈ cc, one1 c = true) ∧ ∀ (j : Nat) (x : V) (c : Value), cells[j]? = some x → cc[bs + j]? = some c → VR C x c := by
  cases h with
  | row _ _ cc t hb hl h1 hv => exact ⟨cc, t, hb, hl, h1, hv⟩

/-- A live pointer into a row. -/
theorem ptr_row (h : R C σ) {id ver off : Nat} {cells : List V} {c : Value} (ho : σ[id]? = some (.row ver cells)) (hv : VR C (.p id ver off) c) :
    ∃ blk bs cc t, c = .pointer (some ⟨blk, bs + off, none⟩) ∧ C.ρ[id]? = some (blk, bs) ∧ C.w.heap[blk]? = some (.cells cc t (0, 0)) ∧ bs + cells.length ≤ cc.size ∧
      (∀ c ∈ cc, one1 c = true) ∧ ∀ (j : Nat) (x : V) (c : Value), cells[j]? = some x → cc[bs + j]? = some c → VR C x c := by
  have hver := h.ver id _ ho
  cases hv with
  | p _ _ _ blk bs hρ hv =>
    obtain ⟨cc, t, a, b, d, e⟩ := row_inv (h.obj id _ blk bs ho hρ)
    exact ⟨blk, bs, cc, t, rfl, hρ, a, b, d, e⟩
  | p0 _ _ _ v _ h1 hv hl =>
    rw [hver] at hv
    have := Option.some.inj hv
    simp only [O.ver] at this
    omega

theorem live_ptr {id ver off : Nat} {c : Value} (hver : C.vs[id]? = some ver) (hv : VR C (.p id ver off) c) :
    ∃ blk bs, c = .pointer (some ⟨blk, bs + off, none⟩) ∧ C.ρ[id]? = some (blk, bs) := by
  cases hv with
  | p _ _ _ blk bs hρ hv => exact ⟨blk, bs, rfl, hρ⟩
  | p0 _ _ _ v _ h1 hv hl =>
    rw [hver] at hv
    have := Option.some.inj hv
    omega

theorem live_ver (h : R C σ) {id ver : Nat} (hl : liveV σ id ver) : C.vs[id]? = some ver := by
  unfold liveV at hl
  cases ho : σ[id]? with
  | none => rw [ho] at hl; cases hl
  | some o =>
    rw [ho] at hl
    simp at hl
    rw [h.ver id o ho, hl]

theorem cell_of {w : World} {blk o : Nat} {cc : Array Value} {t : TypeId} (hb : w.heap[blk]? = some (.cells cc t (0, 0))) : w.cell? ⟨blk, o, none⟩ = cc[o]? := by
  simp [World.cell?, hb]

theorem ld1_cell (h : R C σ) {x : V} {c : Value} (hx : VR C x c) {K : V → Prop} (hk : ld1K x σ K) :
    ∃ blk o v cv, c = .pointer (some ⟨blk, o, none⟩) ∧ C.w.cell? ⟨blk, o, none⟩ = some cv ∧ VR C v cv ∧ K v := by
  cases x <;> simp only [ld1K] at hk
  case p id ver off =>
    split at hk
    · rename_i v cells ho
      obtain ⟨rfl, hoff, hk⟩ := hk
      obtain ⟨blk, bs, cc, t, rfl, hρ, hb, hl, h1, hv⟩ := ptr_row h ho hx
      have hlt : bs + off < cc.size := by omega
      exact ⟨blk, bs + off, _, cc[bs + off], rfl, by rw [cell_of hb]; exact Array.getElem?_eq_getElem hlt, hv off _ _ (get_ok hoff .u) (Array.getElem?_eq_getElem hlt), hk⟩
    · exact hk.elim
  case sp cells off =>
    obtain ⟨hoff, hk⟩ := hk
    cases hx with
    | sp _ _ blk base cs hz hl h1 hc hv =>
      have hlt : off < cs.length := by omega
      exact ⟨blk, base + off, _, cs[off], rfl, hc off _ (List.getElem?_eq_getElem hlt), hv off _ _ (get_ok hoff .u) (List.getElem?_eq_getElem hlt), hk⟩
  all_goals exact hk.elim

theorem run_isAgg_false {t : TypeId} (ha : aggP P t = some false) (w : World) : (isAgg t).run P w = .ok false w := by
  unfold aggP at ha
  unfold isAgg
  cases hd : P.underlying t with
  | none => rw [hd] at ha; cases ha
  | some d =>
    rw [hd] at ha
    simp only [Sem.run_bind, run_underlying hd, Result.andThen_ok]
    cases d <;> first | rfl | (simp at ha)

theorem run_isAgg_true {t : TypeId} (ha : aggP P t = some true) (w : World) : (isAgg t).run P w = .ok true w := by
  unfold aggP at ha
  unfold isAgg
  cases hd : P.underlying t with
  | none => rw [hd] at ha; cases ha
  | some d =>
    rw [hd] at ha
    simp only [Sem.run_bind, run_underlying hd, Result.andThen_ok]
    cases d <;> first | rfl | (simp at ha)

theorem run_sizeOf {t : TypeId} {n : Nat} (h : szP P t = some n) (w : World) : (sizeOf t).run P w = .ok n w := by
  unfold szP at h
  cases hi : P.info? t with
  | none => rw [hi] at h; cases h
  | some i =>
    rw [hi] at h
    simp at h
    simp [sizeOf, typeInfo, hi, h]

theorem ld1_sound (h : R C σ) {x : V} {c : Value} (hx : VR C x c) {K : V → Prop} (hk : ld1K x σ K) {t : TypeId} (ha : aggP P t = some false) :
    Done C (fun v σ' => σ' = σ ∧ K v) ((Instr.loadAt t c).run P C.w) := by
  obtain ⟨blk, o, v, cv, rfl, hc, hv, hk⟩ := ld1_cell h hx hk
  have : (Instr.loadAt t (.pointer (some ⟨blk, o, none⟩))).run P C.w = .ok cv C.w := by
    simp [Instr.loadAt, Instr.sureAddr, loadVar, run_isAgg_false ha, hc]
  rw [this]
  exact Done.same h hv ⟨rfl, hk⟩

theorem ldA_cells (h : R C σ) {n : Nat} {x : V} {c : Value} (hx : VR C x c) {K : V → Prop} (hk : ldAK n x σ K) :
    ∃ (blk o : Nat) (xs : List V) (cs : List Value), c = .pointer (some ⟨blk, o, none⟩) ∧ cs.length = n ∧ (∀ (j : Nat) (u : Value), cs[j]? = some u → C.w.cell? ⟨blk, o + j, none⟩ = some u) ∧ VR C (.agg xs) (.agg cs.toArray) ∧ K (.agg xs) := by
  cases x <;> simp only [ldAK] at hk
  case p id ver off =>
    split at hk
    · rename_i v cells ho
      obtain ⟨rfl, hoff, hk⟩ := hk
      obtain ⟨blk, bs, cc, t, rfl, hρ, hb, hl, h1, hv⟩ := ptr_row h ho hx
      have hlen : ((cc.toList.drop (bs + off)).take n).length = n := by simp; omega
      refine ⟨blk, bs + off, _, (cc.toList.drop (bs + off)).take n, rfl, hlen, fun j u hu => ?_, .agg _ _ (by simp; omega) (fun c hc => ?_) (fun j x c hx hc => ?_), hk⟩
      · rw [List.getElem?_take] at hu
        split at hu
        · rw [List.getElem?_drop] at hu
          rw [cell_of hb, ← hu]; simp
        · cases hu
      · have : c ∈ cc.toList := List.mem_of_mem_drop (List.mem_of_mem_take (by simpa using hc))
        exact h1 c (by simpa using this)
      · simp only [List.getElem?_toArray, List.getElem?_take] at hx hc
        split at hx
        · rename_i hj
          rw [if_pos hj] at hc
          rw [List.getElem?_drop] at hx hc
          refine hv (off + j) x c hx ?_
          rw [← Nat.add_assoc]; simpa using hc
        · cases hx
    · exact hk.elim
  case sp cells off =>
    obtain ⟨hoff, hk⟩ := hk
    cases hx with
    | sp _ _ blk base cs hz hl h1 hc hv =>
      have hlen : ((cs.drop off).take n).length = n := by simp; omega
      refine ⟨blk, base + off, _, (cs.drop off).take n, rfl, hlen, fun j u hu => ?_, .agg _ _ (by simp; omega) (fun c hc => ?_) (fun j x c hx hc => ?_), hk⟩
      · rw [List.getElem?_take] at hu
        split at hu
        · rw [List.getElem?_drop] at hu
          have := hc _ _ hu
          rwa [← Nat.add_assoc] at this
        · cases hu
      · exact h1 c (List.mem_of_mem_drop (List.mem_of_mem_take (by simpa using hc)))
      · simp only [List.getElem?_toArray, List.getElem?_take] at hx hc
        split at hx
        · rename_i hj
          rw [if_pos hj] at hc
          rw [List.getElem?_drop] at hx hc
          exact hv (off + j) x c hx hc
        · cases hx
  all_goals exact hk.elim

theorem ldA_sound (h : R C σ) {n : Nat} {x : V} {c : Value} (hx : VR C x c) {K : V → Prop} (hk : ldAK n x σ K) {t : TypeId} (ha : aggP P t = some true) (hn : szP P t = some n) :
    Done C (fun v σ' => σ' = σ ∧ K v) ((Instr.loadAt t c).run P C.w) := by
  obtain ⟨blk, o, xs, cs, rfl, hl, hc, hv, hk⟩ := ldA_cells h hx hk
  have hlc := run_loadCells_list (P := P) C.w ⟨blk, o, none⟩ cs (fun j v hj => by rw [add_at]; exact hc j v hj)
  rw [hl] at hlc
  have : (Instr.loadAt t (.pointer (some ⟨blk, o, none⟩))).run P C.w = .ok (.agg cs.toArray) C.w := by
    simp [Instr.loadAt, Instr.sureAddr, loadVar, run_isAgg_true ha, run_sizeOf hn, hlc]
  rw [this]
  exact Done.same h hv ⟨rfl, hk⟩

end

/-! ### New objects -/
section
variable {P : Program} {C : Cx} {σ : List O}

theorem new_row (h : R C σ) {xs : List V} {cs : List Value} (t : TypeId) (hl : cs.length = xs.length) (h1 : ∀ c ∈ cs, one1 c = true)
    (hv : ∀ (j : Nat) (x : V) (c : Value), xs[j]? = some x → cs[j]? = some c → VR C x c) :
    R (C.alloc (.cells cs.toArray t)) (σ ++ [.row 0 xs]) ∧ Ext C (C.alloc (.cells cs.toArray t)) ∧
      (C.alloc (.cells cs.toArray t)).ρ[σ.length]? = some (C.w.heap.size, 0) ∧ (C.alloc (.cells cs.toArray t)).vs[σ.length]? = some 0 ∧
      (C.alloc (.cells cs.toArray t)).w.heap[C.w.heap.size]? = some (.cells cs.toArray t (0, 0)) := by
  have e := alloc_ext h.wf (.cells cs.toArray t)
  have hb : (C.alloc (.cells cs.toArray t)).w.heap[C.w.heap.size]? = some (.cells cs.toArray t (0, 0)) := heap_alloc_eq _ _
  refine ⟨h.alloc _ _ rfl (.row 0 xs cs.toArray t hb (by simp; omega) (by simpa using h1) (fun j x c hx hc => ?_)), e, ?_, ?_, hb⟩
  · exact (hv j x c hx (by simpa using hc)).ext e h.wf
  · show (C.ρ ++ _)[σ.length]? = _
    rw [h.len, ← h.wf.len]; simp
  · show (C.vs ++ _)[σ.length]? = _
    rw [h.len]; simp

theorem alloc_ptr (h : R C σ) {xs : List V} {cs : List Value} (t : TypeId) (hl : cs.length = xs.length) (h1 : ∀ c ∈ cs, one1 c = true)
    (hv : ∀ (j : Nat) (x : V) (c : Value), xs[j]? = some x → cs[j]? = some c → VR C x c) {K : V → List O → Prop} (hk : K (.p σ.length 0 0) (σ ++ [.row 0 xs])) :
    Done C K (.ok (.pointer (some ⟨C.w.heap.size, 0, none⟩)) (C.w.alloc (.cells cs.toArray t))) := by
  obtain ⟨a, b, c, d, e⟩ := new_row h t hl h1 hv
  exact ⟨_, C.alloc (.cells cs.toArray t), _, _, rfl, a, b, .p _ _ _ _ 0 c d, hk⟩

theorem cv1_sound {v : Value} {x : V} (h : cv1 v = some x) (C : Cx) : VR C x v ∧ one1 v = true := by
  unfold cv1 at h
  split at h <;> first | (cases h; done) | skip
  all_goals
    injection h with h
    subst h
    refine ⟨?_, rfl⟩
    first | exact .b _ | exact .i _ _ | exact .str _ | exact .np | exact .ssn _ | exact .nm | exact .nf

theorem cvl_sound (C : Cx) : ∀ {vs : List Value} {xs : List V}, cvl vs = some xs → vs.length = xs.length ∧ (∀ c ∈ vs, one1 c = true) ∧
    ∀ (j : Nat) (x : V) (c : Value), xs[j]? = some x → vs[j]? = some c → VR C x c
  | [], xs, h => by simp [cvl] at h; subst h; simp
  | v :: r, xs, h => by
    simp only [cvl] at h
    split at h
    · rename_i x ys hx hy
      injection h with h
      subst h
      obtain ⟨a, b, c⟩ := cvl_sound C hy
      obtain ⟨p, q⟩ := cv1_sound hx C
      refine ⟨by simp [a], fun d hd => ?_, fun j y d hy' hd => ?_⟩
      · rcases List.mem_cons.1 hd with rfl | hd
        · exact q
        · exact b d hd
      · cases j with
        | zero => simp at hy' hd; subst hy'; subst hd; exact p
        | succ j => exact c j y d (by simpa using hy') (by simpa using hd)
    · cases h

theorem cvV_eq (v : Value) (h : ∀ cs, v ≠ .agg cs) : cvV v = cv1 v := by
  cases v <;> first | rfl | exact absurd rfl (h _)

theorem cvV_sound {v : Value} {x : V} (h : cvV v = some x) (C : Cx) : VR C x v := by
  by_cases hv : ∃ cs, v = .agg cs
  · obtain ⟨cs, rfl⟩ := hv
    simp only [cvV, Option.map_eq_some_iff] at h
    obtain ⟨l, hl, rfl⟩ := h
    obtain ⟨a, b, c⟩ := cvl_sound C hl
    exact .agg l cs (by simpa using a) (fun d hd => b d (by simpa using hd)) (fun j x d hx hd => c j x d hx (by simpa using hd))
  · rw [cvV_eq v (fun cs hE => hv ⟨cs, hE⟩)] at h
    exact (cv1_sound h C).1

theorem trX_sound {x : Operand} {y : Od} (h : trX x = some y) {C : Cx} {env : Nat → V} {a : Act} (he : ∀ t, VR C (env t) (a.tmps.getD t undef)) : VR C (y.ev env) (a.eval x) := by
  cases x with
  | tmp t => cases h; exact he t
  | const v =>
    simp only [trX, Option.map_eq_some_iff] at h
    obtain ⟨z, hz, rfl⟩ := h
    exact cvV_sound hz C
  | func f => cases h; exact .f _ _ _ _ _ rfl rfl (by simp) (by simp)
  | global g => cases h

theorem zcP_sound {t : TypeId} {zs : List V} (h : zcP P t = some zs) (C : Cx) : ∃ z : Value, (∀ w, (zeroValue t).run P w = .ok z w) ∧ z.cells.size = zs.length ∧ (∀ c ∈ z.cells, one1 c = true) ∧
    (∀ (j : Nat) (x : V) (c : Value), zs[j]? = some x → z.cells[j]? = some c → VR C x c) ∧ ∃ i, P.info? t = some i ∧ i.zero = some z := by
  unfold zcP at h
  split at h
  · rename_i i hi
    split at h
    · rename_i z hz
      obtain ⟨a, b, c⟩ := cvl_sound C h
      refine ⟨z, fun w => by simp [zeroValue, typeInfo, hi, hz], by simpa using a, fun d hd => b d (by simpa using hd), fun j x d hx hd => c j x d hx (by simpa using hd), i, hi, hz⟩
    · cases h
  · cases h

theorem alloc_sound (h : R C σ) {t : TypeId} {zs : List V} (hz : zcP P t = some zs) {K : V → List O → Prop} (hk : K (.p σ.length 0 0) (σ ++ [.row 0 zs])) :
    Done C K ((Instr.alloc t true (.tuple #[])).run P C.w) := by
  obtain ⟨z, hr, a, b, c, -⟩ := zcP_sound hz C
  have : (Instr.alloc t true (.tuple #[])).run P C.w = .ok (.pointer (some ⟨C.w.heap.size, 0, none⟩)) (C.w.alloc (.cells z.cells.toList.toArray t)) := by
    simp [Instr.alloc, hr, newVar, newRow]
  rw [this]
  exact alloc_ptr h t (by simpa using a) (fun d hd => b d (by simpa using hd)) (fun j x d hx hd => c j x d hx (by simpa using hd)) hk

theorem box_sound (h : R C σ) {t : TypeId} {x : V} {c : Value} (hx : VR C x c) {cs : List V} (hcs : cellsOf x = some cs) {K : V → List O → Prop} (hk : K (.p σ.length 0 0) (σ ++ [.row 0 cs])) :
    Done C K ((Instr.box t c).run P C.w) := by
  obtain ⟨a, b, d⟩ := hx.cells hcs
  have : (Instr.box t c).run P C.w = .ok (.pointer (some ⟨C.w.heap.size, 0, none⟩)) (C.w.alloc (.cells c.cells.toList.toArray t)) := by
    simp [Instr.box, newVar, newRow]
  rw [this]
  exact alloc_ptr h t (by simpa using a) (fun e he => b e (by simpa using he)) (fun j x e hx he => d j x e hx (by simpa using he)) hk

/-! ### Building -/
/-- Cells and values alike. -/
def CR (C : Cx) (xs : List V) (cs : List Value) : Prop := cs.length = xs.length ∧ (∀ c ∈ cs, one1 c = true) ∧ ∀ (j : Nat) (x : V) (c : Value), xs[j]? = some x → cs[j]? = some c → VR C x c

theorem splice_get {α : Type} (cs vs : List α) (off j : Nat) (h : off + vs.length ≤ cs.length) :
    (cs.take off ++ vs ++ cs.drop (off + vs.length))[j]? = if off ≤ j ∧ j < off + vs.length then vs[j - off]? else cs[j]? := by
  rw [List.append_assoc]
  by_cases h1 : j < off
  · rw [List.getElem?_append_left (by simp; omega), List.getElem?_take, if_pos h1, if_neg (by omega)]
  · rw [List.getElem?_append_right (by simp; omega)]
    simp only [List.length_take, Nat.min_eq_left (show off ≤ cs.length by omega)]
    by_cases h2 : j < off + vs.length
    · rw [List.getElem?_append_left (by omega), if_pos (by omega)]
    · rw [List.getElem?_append_right (by omega), List.getElem?_drop, if_neg (by omega)]
      congr 1; omega

theorem splice_len {α : Type} (cs vs : List α) (off : Nat) (h : off + vs.length ≤ cs.length) : (cs.take off ++ vs ++ cs.drop (off + vs.length)).length = cs.length := by
  simp; omega

theorem CR.splice {xs : List V} {cs : List Value} (h : CR C xs cs) {ys : List V} {ds : List Value} (k : CR C ys ds) {off : Nat} (hl : off + ys.length ≤ xs.length) :
    CR C (splice xs off ys) (cs.take off ++ ds ++ cs.drop (off + ds.length)) := by
  have hl' : off + ds.length ≤ cs.length := by have := h.1; have := k.1; omega
  refine ⟨?_, fun c hc => ?_, fun j x c hx hc => ?_⟩
  · rw [splice_len _ _ _ hl']; unfold Ab.splice; rw [splice_len _ _ _ hl]; exact h.1
  · simp only [List.mem_append] at hc
    rcases hc with (hc | hc) | hc
    · exact h.2.1 c (List.mem_of_mem_take hc)
    · exact k.2.1 c hc
    · exact h.2.1 c (List.mem_of_mem_drop hc)
  · unfold Ab.splice at hx
    rw [splice_get _ _ _ _ hl] at hx
    rw [splice_get _ _ _ _ hl', k.1] at hc
    split at hx
    · rename_i hj; rw [if_pos hj] at hc; exact k.2.2 _ x c hx hc
    · rename_i hj; rw [if_neg hj] at hc; exact h.2.2 _ x c hx hc

theorem foldl_set (vs : List Value) (off : Nat) : ∀ (k : Nat) (cs : Array Value), (hlen : off + k + vs.length ≤ cs.size) →
    ((vs.zipIdx k).foldl (fun (cs : Array Value) (p : Value × Nat) => cs.setIfInBounds (off + p.2) p.1) cs).toList = cs.toList.take (off + k) ++ vs ++ cs.toList.drop (off + k + vs.length) := by
  induction vs with
  | nil => intro k cs h; simp
  | cons v vs ih =>
    intro k cs h
    simp only [List.length_cons] at h
    rw [List.zipIdx_cons, List.foldl_cons, ih (k + 1) _ (by simp; omega)]
    have e := list_seg_step cs.toList (off + k) v vs (by simp; omega)
    simpa [Array.toList_setIfInBounds, Nat.add_assoc, Nat.add_comm, Nat.add_left_comm] using e

theorem fill_sound (h : True) : ∀ (ps : List (Nat × Nat × V)) (qs : List (Nat × Value)) (place : Nat → Option (Nat × Nat)) (zs cs' : List V) (cells : Array Value),
    ps.length = qs.length → (∀ (j : Nat) (o s : Nat) (x : V) (i : Nat) (c : Value), ps[j]? = some (o, s, x) → qs[j]? = some (i, c) → place i = some (o, s) ∧ VR C x c) →
    CR C zs cells.toList → fillV zs ps = some cs' → ∃ out, Instr.fill place cells qs = some out ∧ CR C cs' out.toList
  | [], [], place, zs, cs', cells, hl, hp, hc, hf => by
    simp only [fillV, Option.some.injEq] at hf
    subst hf
    exact ⟨cells, rfl, hc⟩
  | (o, s, x) :: ps, (i, c) :: qs, place, zs, cs', cells, hl, hp, hc, hf => by
    obtain ⟨hpl, hx⟩ := hp 0 o s x i c rfl rfl
    simp only [fillV] at hf
    split at hf
    · rename_i vs hvs
      split at hf
      · rename_i hcond
        obtain ⟨h1, h2⟩ := hcond
        obtain ⟨a, b, d⟩ := hx.cells hvs
        have hsz : cells.size = zs.length := by have := hc.1; simpa using this
        have hcr : CR C vs c.cells.toList := ⟨by simpa using a, fun e he => b e (by simpa using he), fun j y e hy he => d j y e hy (by simpa using he)⟩
        have hfold := foldl_set c.cells.toList o 0 cells (by simp; omega)
        have hsp := hc.splice hcr (off := o) (by omega)
        obtain ⟨out, ho, hout⟩ := fill_sound h ps qs place _ cs' (c.cells.zipIdx.foldl (fun cs (p : Value × Nat) => cs.setIfInBounds (o + p.2) p.1) cells) (by simpa using hl)
          (fun j o' s' x' i' c' hj hk => hp (j + 1) o' s' x' i' c' (by simpa using hj) (by simpa using hk))
          (by
            rw [← Array.foldl_toList, Array.toList_zipIdx, hfold]
            simpa using hsp) hf
        refine ⟨out, ?_, hout⟩
        simp only [Instr.fill, hpl]
        have hng : ¬ ((decide (c.cells.size ≠ s) || decide (o + c.cells.size > cells.size)) = true) := by
          simp only [Bool.or_eq_true, decide_eq_true_eq]
          rintro (h3 | h3)
          · exact h3 (a.trans h1)
          · omega
        rw [if_neg hng]
        exact ho
      · cases hf
    · cases hf
  | [], _ :: _, _, _, _, _, hl, _, _, _ => by simp at hl
  | _ :: _, [], _, _, _, _, hl, _, _, _ => by simp at hl

end

end Go.Ab
