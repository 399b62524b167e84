/- The abstract layer, part 9: the operations on maps. -/
import Derived.Test.YtchmfamkpfaieaaAb8
set_option linter.unusedVariables false
set_option linter.unusedSimpArgs false
namespace Go.Ab
open Go

section
variable {P : Program} {C : Cx} {σ : List O}

theorem idxM_lt {q : IntKind} {n : Nat} {ks : List Int} : ∀ {l : List (V × V)} {i : Nat}, idxM q n ks l = some i → i < l.length
  | [], i, h => by simp [idxM] at h
  | (k, v) :: l, i, h => by
    simp only [idxM] at h
    split at h
    · cases h; simp
    · simp only [Option.map_eq_some_iff] at h
      obtain ⟨j, hj, rfl⟩ := h
      have := idxM_lt hj
      simp; omega

theorem idxM_key {q : IntKind} {n : Nat} {ks : List Int} : ∀ {l : List (V × V)} {i : Nat}, idxM q n ks l = some i → ∃ e, l[i]? = some e ∧ keyOf q n e.1 = some ks
  | [], i, h => by simp [idxM] at h
  | (k, v) :: l, i, h => by
    simp only [idxM] at h
    split at h
    · rename_i hk; cases h; exact ⟨(k, v), rfl, hk⟩
    · simp only [Option.map_eq_some_iff] at h
      obtain ⟨j, hj, rfl⟩ := h
      obtain ⟨e, h1, h2⟩ := idxM_key hj
      exact ⟨e, by simpa using h1, h2⟩

theorem pair_of {l : List (V × V)} {ces : Array MapEntry} (hl : ces.size = l.length) (hk : ∀ (j : Nat) (k v : V) (e : MapEntry), l[j]? = some (k, v) → ces[j]? = some e → VR C k e.key)
    (hv : ∀ (j : Nat) (k v : V) (e : MapEntry), l[j]? = some (k, v) → ces[j]? = some e → VR C v e.val) :
    ces.toList.length = l.length ∧ ∀ (j : Nat) (k v : V) (e : MapEntry), l[j]? = some (k, v) → ces.toList[j]? = some e → VR C k e.key ∧ VR C v e.val :=
  ⟨by simpa using hl, fun j k v e h1 h2 => ⟨hk j k v e h1 (by simpa using h2), hv j k v e h1 (by simpa using h2)⟩⟩

theorem lkp_sound (h : R C σ) {q : IntKind} {n : Nat} {zv : V} {ok : Bool} {x k : V} {cx ck : Value} (hx : VR C x cx) (hkv : VR C k ck) {t key elem : TypeId} (ht : P.underlying t = some (.map key elem)) (hkey : keyP P key = some (q, n))
    (hz : zcP P elem = some [zv]) (hz1 : aggP P elem = some false ∨ True) (hzo : ∀ (z : Value), z.cells.size = 1 → (∃ i, P.info? elem = some i ∧ i.zero = some z) → z.oneCell' = true)
    {K : V → Prop} (hk : lkpK q n zv ok x k σ K) : Done C (fun v σ' => σ' = σ ∧ K v) ((Instr.lookup t cx ck ok).run P C.w) := by
  obtain ⟨z, hzr, hza, hzb, hzc, hzi⟩ := zcP_sound hz C
  have hz1' : z.oneCell' = true := hzo z (by simpa using hza) hzi
  have hzcells : z.cells = #[z] := by cases z <;> first | rfl | (simp [Value.oneCell'] at hz1')
  have hzv : VR C zv z := hzc 0 zv z rfl (by rw [hzcells]; rfl)
  unfold lkpK at hk
  split at hk
  · rename_i ks hks
    obtain ⟨rfl, hl⟩ := keyOf_sound hkv hks
    have fin : ∀ (blk clock : Nat) (es : Array MapEntry) (l : List (V × V)), C.w.heap[blk]? = some (.map es clock) → es.size = l.length → (∀ (j : Nat) (k v : V) (e : MapEntry), l[j]? = some (k, v) → es[j]? = some e → VR C k e.key) →
        (∀ (j : Nat) (k v : V) (e : MapEntry), l[j]? = some (k, v) → es[j]? = some e → VR C v e.val) → lkpF q n zv ok ks l K →
        Done C (fun v σ' => σ' = σ ∧ K v) ((Instr.lookup t (.map (some blk)) (kval q n ks) ok).run P C.w) := by
      intro blk clock es l hb hsz h1 h2 hF
      obtain ⟨hok, hm⟩ := hF
      obtain ⟨p1, p2⟩ := pair_of hsz h1 h2
      obtain ⟨hf, hM⟩ := find_sound hkey hl C.w l es.toList p1 p2 hok
      have hg : (getObj blk).run P C.w = .ok (.map es clock) C.w := by simp [getObj, Sem.run, hb]
      have hck := checkKey_ok hkey hl es.isEmpty C.w
      rw [hM] at hm
      cases hi : idxM q n ks l with
      | none =>
        rw [hi] at hm hf
        simp only [Option.bind_none] at hm hf
        have : (Instr.lookup t (.map (some blk)) (kval q n ks) ok).run P C.w = .ok (if ok then .tuple #[z, .bool false] else z) C.w := by
          simp only [Instr.lookup, Sem.run_bind, run_underlying ht, Result.andThen_ok, hg, Sem.run_pure, hck, hf, hzr]
        rw [this]
        cases ok with
        | true =>
          simp only [if_true] at hm ⊢
          exact Done.same h (.tup _ #[z, .bool false] rfl (fun j x c hx hc => by
            match j with
            | 0 => simp at hx hc; subst hx; subst hc; exact hzv
            | 1 => simp at hx hc; subst hx; subst hc; exact .b _
            | j + 2 => simp at hx)) ⟨rfl, hm⟩
        | false =>
          simp only [Bool.false_eq_true, if_false] at hm ⊢
          exact Done.same h hzv ⟨rfl, hm⟩
      | some i =>
        rw [hi] at hm hf
        have hlt := idxM_lt hi
        have hlt' : i < es.toList.length := by omega
        simp only [Option.bind_some, List.getElem?_eq_getElem hlt, List.getElem?_eq_getElem hlt', Option.map_some] at hm hf
        have hvv : VR C l[i].2 (es.toList[i]).val := (p2 i l[i].1 l[i].2 (es.toList[i]) (by rw [List.getElem?_eq_getElem hlt]) (List.getElem?_eq_getElem hlt')).2
        obtain ⟨u, hu⟩ : ∃ u, (es.toList[i]).val = u := ⟨_, rfl⟩
        rw [hu] at hf hvv
        have : (Instr.lookup t (.map (some blk)) (kval q n ks) ok).run P C.w = .ok (if ok then .tuple #[u, .bool true] else u) C.w := by
          simp only [Instr.lookup, Sem.run_bind, run_underlying ht, Result.andThen_ok, hg, Sem.run_pure, hck, hf]
        rw [this]
        cases ok with
        | true =>
          simp only [if_true] at hm ⊢
          exact Done.same h (.tup _ #[u, .bool true] rfl (fun j x c hx hc => by
            match j with
            | 0 => simp at hx hc; subst hx; subst hc; exact hvv
            | 1 => simp at hx hc; subst hx; subst hc; exact .b _
            | j + 2 => simp at hx)) ⟨rfl, hm⟩
        | false =>
          simp only [Bool.false_eq_true, if_false] at hm ⊢
          exact Done.same h hvv ⟨rfl, hm⟩
    cases x <;> simp only at hk
    case sm l =>
      cases hx with
      | sm _ blk es clock hz hb hl' h1 h2 => exact fin blk clock es l hb hl' h1 h2 hk
    case m id =>
      split at hk
      · rename_i es clock ho
        obtain ⟨blk, bs, ces, rfl, hρ, hb, hl', hv⟩ := map_inv_live h ho hx
        refine fin blk clock ces (es.map (·.2)) hb (by simpa using hl') (fun j k v e hj he => ?_) (fun j k v e hj he => ?_) hk
        · rw [List.getElem?_map, Option.map_eq_some_iff] at hj
          obtain ⟨⟨b, k', v'⟩, hj, hE⟩ := hj
          cases hE
          exact (hv j b k v e hj he).2.1
        · rw [List.getElem?_map, Option.map_eq_some_iff] at hj
          obtain ⟨⟨b, k', v'⟩, hj, hE⟩ := hj
          cases hE
          exact (hv j b k v e hj he).2.2
      · exact hk.elim
    case nm =>
      cases hx with
      | nm =>
        have hf : (Instr.findKey key (kval q n ks) (#[] : Array MapEntry).toList).run P C.w = .ok none C.w := by
          have := (find_sound (C := C) hkey hl C.w [] [] rfl (by simp) (by simp [keysOK])).1
          simpa [idxM] using this
        have : (Instr.lookup t (.map none) (kval q n ks) ok).run P C.w = .ok (if ok then .tuple #[z, .bool false] else z) C.w := by
          simp only [Instr.lookup, Sem.run_bind, run_underlying ht, Result.andThen_ok, Sem.run_pure, checkKey_ok hkey hl, hf, hzr]
        rw [this]
        cases ok with
        | true =>
          simp only [if_true] at hk ⊢
          exact Done.same h (.tup _ #[z, .bool false] rfl (fun j x c hx hc => by
            match j with
            | 0 => simp at hx hc; subst hx; subst hc; exact hzv
            | 1 => simp at hx hc; subst hx; subst hc; exact .b _
            | j + 2 => simp at hx)) ⟨rfl, hk⟩
        | false =>
          simp only [Bool.false_eq_true, if_false] at hk ⊢
          exact Done.same h hzv ⟨rfl, hk⟩
    all_goals exact hk.elim
  · exact hk.elim

/-- The map's block is turned. -/
theorem turn_map (h : R C σ) {id blk bs : Nat} {es es' : List (Nat × V × V)} {clock clock' : Nat} {ces ces' : Array MapEntry} (ho : σ[id]? = some (.map es clock)) (hρ : C.ρ[id]? = some (blk, bs))
    (hb : C.w.heap[blk]? = some (.map ces clock)) (hl : ces'.size = es'.length)
    (hv : ∀ (j b : Nat) (k v : V) (e : MapEntry), es'[j]? = some (b, k, v) → ces'[j]? = some e → e.born = b ∧ VR C k e.key ∧ VR C v e.val) :
    R (C.turn id blk bs 0 (C.w.putObj blk (.map ces' clock'))) (σ.set id (.map es' clock')) ∧ Ext C (C.turn id blk bs 0 (C.w.putObj blk (.map ces' clock'))) := by
  have hlt : blk < C.w.heap.size := (Array.getElem?_eq_some_iff.1 hb).1
  exact h.turn (o' := .map es' clock') ho hρ (.inl ⟨rfl, rfl⟩) rfl rfl rfl (by simp) (fun b _ hne => World.putObj_heap_other hne) (fun cc t hc => by rw [hb] at hc; cases hc)
    (fun e => .map es' clock' ces' (World.putObj_heap_same hlt) hl (fun j b k v en h1 h2 => let ⟨x, y, z⟩ := hv j b k v en h1 h2; ⟨x, y.ext e h.wf, z.ext e h.wf⟩))

theorem sameBits_kval (q : IntKind) (n : Nat) (ks : List Int) (d : Nat) : Instr.sameBits (d + 2) (kval q n ks) (kval q n ks) = true := by
  unfold kval
  split
  · simp [Instr.sameBits]
  · simp only [Instr.sameBits, iv, beq_self_eq_true, Bool.true_and, List.all_eq_true]
    intro p hp
    obtain ⟨a, b⟩ := p
    have : a = b ∧ ∃ n, a = .int q n := by
      obtain ⟨j, hj⟩ := List.mem_iff_getElem?.1 hp
      rw [List.getElem?_zip_eq_some] at hj
      simp only [List.getElem?_map, Option.map_eq_some_iff] at hj
      obtain ⟨⟨x, hx, rfl⟩, y, hy, rfl⟩ := hj
      rw [hx] at hy; cases hy
      exact ⟨rfl, x, rfl⟩
    obtain ⟨rfl, m, rfl⟩ := this
    simp [Instr.sameBits]

theorem vals_of {es : List (Nat × V × V)} {ces : Array MapEntry} (hl : ces.size = es.length)
    (hv : ∀ (j b : Nat) (k v : V) (e : MapEntry), es[j]? = some (b, k, v) → ces[j]? = some e → e.born = b ∧ VR C k e.key ∧ VR C v e.val) :
    ces.toList.length = (es.map (·.2)).length ∧ ∀ (j : Nat) (k v : V) (e : MapEntry), (es.map (·.2))[j]? = some (k, v) → ces.toList[j]? = some e → VR C k e.key ∧ VR C v e.val := by
  refine ⟨by simpa using hl, fun j k v e hj he => ?_⟩
  rw [List.getElem?_map, Option.map_eq_some_iff] at hj
  obtain ⟨⟨b, k', v'⟩, hj, hE⟩ := hj
  cases hE
  exact (hv j b k v e hj (by simpa using he)).2

theorem mset_sound (h : R C σ) {q : IntKind} {n : Nat} {x k v : V} {cx ck cv : Value} (hx : VR C x cx) (hkv : VR C k ck) (hvv : VR C v cv) {t key elem : TypeId} (ht : P.underlying t = some (.map key elem)) (hkey : keyP P key = some (q, n))
    {K : V → List O → Prop} (hk : msetK q n x k v σ K) : DoneU C K ((Instr.mapUpdate t cx ck cv).run P C.w) := by
  unfold msetK at hk
  split at hk
  · rename_i ks id hks
    split at hk
    · rename_i es clock ho
      obtain ⟨hok, hk⟩ := hk
      obtain ⟨blk, bs, ces, rfl, hρ, hb, hl, hv⟩ := map_inv_live h ho hx
      obtain ⟨rfl, hkl⟩ := keyOf_sound hkv hks
      obtain ⟨p1, p2⟩ := vals_of hl hv
      obtain ⟨hf, -⟩ := find_sound hkey hkl C.w _ _ p1 p2 hok
      have hg : (getObj blk).run P C.w = .ok (.map ces clock) C.w := by simp [getObj, Sem.run, hb]
      have hset : ∀ o, (setObj blk o).run P C.w = .ok () (C.w.putObj blk o) := fun o => by simp [setObj, Sem.run, hb, World.putObj]
      have hck := checkKey_ok hkey hkl false C.w
      split at hk
      · rename_i i hi
        have hlt := idxM_lt hi
        have hlt' : i < ces.size := by simp at hlt; omega
        obtain ⟨en, hen, hek⟩ := idxM_key hi
        rw [List.getElem?_map, Option.map_eq_some_iff] at hen
        obtain ⟨⟨b0, k0, v0⟩, hen, hE⟩ := hen
        cases hE
        have hold := hv i b0 k0 v0 ces[i] hen (Array.getElem?_eq_getElem hlt')
        have hkeq : ces[i].key = kval q n ks := (keyOf_sound hold.2.1 hek).1
        simp only [Option.bind_some, Array.getElem?_toList, Array.getElem?_eq_getElem hlt', Option.map_some, hi] at hf
        have hst : (Instr.keyThatStays ces[i].key (kval q n ks)).run P C.w = .ok (kval q n ks) C.w := by
          rw [hkeq]
          have : Instr.sameBits 10000 (kval q n ks) (kval q n ks) = true := sameBits_kval q n ks 9998
          simp [Instr.keyThatStays, this]
        have hrun : (Instr.mapUpdate t (.map (some blk)) (kval q n ks) cv).run P C.w = .ok () (C.w.putObj blk (.map (ces.modify i fun e => { e with key := kval q n ks, val := cv }) clock)) := by
          simp only [Instr.mapUpdate, Sem.run_bind, run_underlying ht, Result.andThen_ok, hg, hck, hf, Array.getElem?_eq_getElem hlt', Option.map_some, Option.getD_some, hst, hset]
        rw [hrun]
        obtain ⟨r1, r2⟩ := turn_map h ho hρ hb (ces' := ces.modify i fun e => { e with key := kval q n ks, val := cv }) (es' := es.modify i fun e => (e.1, k, v)) (clock' := clock) (by simpa using hl)
          (fun j b k' v' e hj he => by
            rw [Array.getElem?_modify] at he
            rw [List.getElem?_modify] at hj
            by_cases hij : i = j
            · subst hij
              simp only [if_true, hen, Array.getElem?_eq_getElem hlt', Option.map_some, Option.some.injEq] at hj he
              simp only [Option.map_eq_map, Option.map_some, Option.some.injEq, Prod.mk.injEq] at hj
              obtain ⟨rfl, rfl, rfl⟩ := hj
              subst he
              exact ⟨hold.1, hkv, hvv⟩
            · simp only [hij, if_false] at hj he
              simp only [id_eq, Option.map_eq_map, Option.map_id'] at hj he
              exact hv j b k' v' e (by simpa using hj) he)
        exact ⟨_, _, rfl, r1, r2, hk⟩
      · rename_i hi
        rw [hi] at hf
        simp only [Option.bind_none] at hf
        have hrun : (Instr.mapUpdate t (.map (some blk)) (kval q n ks) cv).run P C.w = .ok () (C.w.putObj blk (.map (ces.push { key := kval q n ks, val := cv, born := clock }) (clock + 1))) := by
          simp only [Instr.mapUpdate, Sem.run_bind, run_underlying ht, Result.andThen_ok, hg, hck, hf, hset]
        rw [hrun]
        obtain ⟨r1, r2⟩ := turn_map h ho hρ hb (ces' := ces.push { key := kval q n ks, val := cv, born := clock }) (es' := es ++ [(clock, k, v)]) (clock' := clock + 1) (by simp [hl])
          (fun j b k' v' e hj he => by
            rw [Array.getElem?_push] at he
            rcases get_snoc_cases hj with hj | ⟨rfl, hE⟩
            · have := (List.getElem?_eq_some_iff.1 hj).1
              rw [if_neg (by omega)] at he
              exact hv j b k' v' e hj he
            · cases hE
              rw [if_pos hl.symm] at he
              cases he
              exact ⟨rfl, hkv, hvv⟩)
        exact ⟨_, _, rfl, r1, r2, hk⟩
    · exact hk.elim
  · exact hk.elim

theorem mdel_sound (h : R C σ) {q : IntKind} {n : Nat} {x k : V} {cx ck : Value} (hx : VR C x cx) (hkv : VR C k ck) {t tk key elem ty : TypeId} (ht : P.underlying t = some (.map key elem)) (hkey : keyP P key = some (q, n))
    {K : V → List O → Prop} (hk : mdelK q n x k σ K) : Done C K ((Builtin.delete_ #[t, tk] ty #[cx, ck]).run P C.w) := by
  unfold mdelK at hk
  split at hk
  · rename_i ks id hks
    split at hk
    · rename_i es clock ho
      obtain ⟨hok, hk⟩ := hk
      obtain ⟨blk, bs, ces, rfl, hρ, hb, hl, hv⟩ := map_inv_live h ho hx
      obtain ⟨rfl, hkl⟩ := keyOf_sound hkv hks
      obtain ⟨p1, p2⟩ := vals_of hl hv
      obtain ⟨hf, -⟩ := find_sound hkey hkl C.w _ _ p1 p2 hok
      have hg : (getObj blk).run P C.w = .ok (.map ces clock) C.w := by simp [getObj, Sem.run, hb]
      have hset : ∀ o, (setObj blk o).run P C.w = .ok () (C.w.putObj blk o) := fun o => by simp [setObj, Sem.run, hb, World.putObj]
      have hck := checkKey_ok hkey hkl ces.isEmpty C.w
      split at hk
      · rename_i i hi
        have hlt := idxM_lt hi
        have hlt' : i < ces.size := by simp at hlt; omega
        simp only [hi, Option.bind_some, Array.getElem?_toList, Array.getElem?_eq_getElem hlt', Option.map_some] at hf
        have hrun : (Builtin.delete_ #[t, tk] ty #[.map (some blk), kval q n ks]).run P C.w = .ok (.tuple #[]) (C.w.putObj blk (.map (ces.eraseIdxIfInBounds i) clock)) := by
          simp [Builtin.delete_, run_underlying ht, hg, hck, hf, hset]
        rw [hrun]
        have he0 : ces.eraseIdxIfInBounds i = ces.eraseIdx i hlt' := by simp [Array.eraseIdxIfInBounds, hlt']
        obtain ⟨r1, r2⟩ := turn_map h ho hρ hb (ces' := ces.eraseIdxIfInBounds i) (es' := es.eraseIdx i) (clock' := clock) (by rw [he0]; simp [List.length_eraseIdx, hl]; simp at hlt; omega)
          (fun j b k' v' e hj he => by
            rw [he0, Array.getElem?_eraseIdx] at he
            rw [List.getElem?_eraseIdx] at hj
            split at hj
            · rename_i hji; rw [if_pos hji] at he; exact hv j b k' v' e hj he
            · rename_i hji; rw [if_neg hji] at he; exact hv (j + 1) b k' v' e hj he)
        exact ⟨_, _, .u, _, rfl, r1, r2, .u _, hk⟩
      · rename_i hi
        rw [hi] at hf
        simp only [Option.bind_none] at hf
        have hrun : (Builtin.delete_ #[t, tk] ty #[.map (some blk), kval q n ks]).run P C.w = .ok (.tuple #[]) (C.w.putObj blk (.map ces clock)) := by
          simp [Builtin.delete_, run_underlying ht, hg, hck, hf, hset]
        rw [hrun]
        obtain ⟨r1, r2⟩ := turn_map h ho hρ hb (ces' := ces) (es' := es) (clock' := clock) hl hv
        exact ⟨_, _, .u, _, rfl, r1, r2, .u _, hk⟩
    · exact hk.elim
  · exact hk.elim

theorem mkmap_sound (h : R C σ) (t : TypeId) {K : V → List O → Prop} (hk : K (.m σ.length) (σ ++ [.map [] 0])) : Done C K ((Instr.makeMap t none).run P C.w) := by
  have : (Instr.makeMap t none).run P C.w = .ok (.map (some C.w.heap.size)) (C.w.alloc (.map #[] 0)) := by simp [Instr.makeMap]
  rw [this]
  have hb : (C.alloc (.map #[] 0)).w.heap[C.w.heap.size]? = some (.map #[] 0) := heap_alloc_eq _ _
  refine ⟨_, C.alloc (.map #[] 0), _, _, rfl, h.alloc _ (.map [] 0) rfl (.map [] 0 #[] hb rfl (by simp)), alloc_ext h.wf _, ?_, hk⟩
  refine .m _ C.w.heap.size 0 ?_ ?_
  · show (C.ρ ++ _)[σ.length]? = _
    rw [h.len, ← h.wf.len]; simp
  · show (C.vs ++ _)[σ.length]? = _
    rw [h.len]; simp

/-! ### Ranging over a map -/
theorem rng_sound (h : R C σ) {x : V} {c : Value} (hx : VR C x c) {t k e : TypeId} (ht : P.underlying t = some (.map k e)) {K : V → List O → Prop} (hk : rngK x σ K) :
    Done C K ((Instr.range t c).run P C.w) := by
  cases x <;> simp only [rngK] at hk
  case m id =>
    split at hk
    · rename_i es clock ho
      obtain ⟨blk, bs, ces, rfl, hρ, hb, hl, hv⟩ := map_inv_live h ho hx
      have hg : (getObj blk).run P C.w = .ok (.map ces clock) C.w := by simp [getObj, Sem.run, hb]
      have : (Instr.range t (.map (some blk))).run P C.w = .ok (.pointer (some ⟨C.w.heap.size, 0, none⟩)) (C.w.alloc (.mapIter (some blk) clock #[] clock)) := by
        simp [Instr.range, run_underlying ht, hg]
      rw [this]
      have e1 := alloc_ext h.wf (.mapIter (some blk) clock #[] clock)
      refine ⟨_, C.alloc (.mapIter (some blk) clock #[] clock), _, _, rfl, h.alloc _ (.it id clock [] clock) rfl (.it id clock [] clock blk rfl (hx.ext e1 h.wf) (heap_alloc_eq _ _)), e1, ?_, hk⟩
      refine .p _ 0 0 C.w.heap.size 0 ?_ ?_
      · show (C.ρ ++ _)[σ.length]? = _
        rw [h.len, ← h.wf.len]; simp
      · show (C.vs ++ _)[σ.length]? = _
        rw [h.len]; simp
    · exact hk.elim
  all_goals exact hk.elim

theorem it_inv (h : R C σ) {id off mid since stepped : Nat} {seen : List Nat} {c : Value} (ho : σ[id]? = some (.it mid since seen stepped)) (hx : VR C (.p id 0 off) c) :
    ∃ blk mb, c = .pointer (some ⟨blk, off, none⟩) ∧ C.ρ[id]? = some (blk, 0) ∧ VR C (.m mid) (.map (some mb)) ∧ C.w.heap[blk]? = some (.mapIter (some mb) since seen.toArray stepped) := by
  obtain ⟨blk, bs, rfl, hρ⟩ := live_ptr (h.ver id _ ho) hx
  cases h.obj id _ blk bs ho hρ with
  | it _ _ _ _ mb h0 hm hb =>
    subst h0
    exact ⟨blk, mb, by rw [Nat.zero_add], hρ, hm, hb⟩

theorem nxt_sound (h : R C σ) {x : V} {c : Value} (hx : VR C x c) (ty : TypeId) {K : V → List O → Prop} (hk : nxtK x σ K) : Done C K ((Instr.next c false ty).run P C.w) := by
  cases x <;> simp only [nxtK] at hk
  case p id ver off =>
    split at hk
    · rename_i mid since seen stepped ho
      split at hk
      · rename_i es clock hom
        obtain ⟨rfl, rfl, rfl, rfl, hborn, hend, hstep⟩ := hk
        obtain ⟨blk, mb, rfl, hρ, hm, hb⟩ := it_inv h ho hx
        obtain ⟨mblk, mbs, ces, hE, hmρ, hmb, hl, hv⟩ := map_inv_live h hom hm
        cases hE
        have hcb : ∀ e ∈ ces, e.born < stepped := by
          intro e he
          obtain ⟨j, hj⟩ := Array.mem_iff_getElem?.1 he
          have hjl : j < es.length := by have := (Array.getElem?_eq_some_iff.1 hj).1; omega
          have := hv j es[j].1 es[j].2.1 es[j].2.2 e (List.getElem?_eq_getElem hjl) hj
          have h2 := hborn es[j] (List.getElem_mem hjl)
          omega
        have hg1 : (getObj blk).run P C.w = .ok (.mapIter (some mb) stepped seen.toArray stepped) C.w := by simp [getObj, Sem.run, hb]
        have hg2 : (getObj mb).run P C.w = .ok (.map ces stepped) C.w := by simp [getObj, Sem.run, hmb]
        obtain ⟨left, hleft⟩ : ∃ left, ces.filter (fun e => !seen.toArray.contains e.born) = left := ⟨_, rfl⟩
        have hlm : ∀ e ∈ left, e ∈ ces ∧ e.born ∉ seen := by
          intro e he
          rw [← hleft] at he
          simp only [Array.mem_filter, Bool.not_eq_true'] at he
          refine ⟨he.1, fun hm => ?_⟩
          have h2 := he.2
          simp at h2
          exact h2 hm
        have hold : left.filter (fun e => decide (e.born < stepped)) = left := by
          rw [Array.filter_eq_self]
          intro e he
          simpa using hcb e (hlm e he).1
        have hnew : left.filter (fun e => decide (e.born ≥ stepped)) = #[] := by
          rw [Array.filter_eq_empty_iff]
          intro e he
          have := hcb e (hlm e he).1
          simp; omega
        have hguard : (!seen.toArray.isEmpty && !ces.isEmpty && ces.all (fun e => decide (e.born ≥ stepped))) = false := by
          by_cases h0 : ces.isEmpty = true
          · simp [h0]
          · have : ∃ e, e ∈ ces := by
              have hne : ces.size ≠ 0 := by simpa [Array.isEmpty] using h0
              exact ⟨ces[0]'(by omega), Array.getElem_mem (by omega)⟩
            obtain ⟨e, he⟩ := this
            have hall : ces.all (fun e => decide (e.born ≥ stepped)) = false := by
              rw [Array.all_eq_false]
              obtain ⟨j, hj, hje⟩ := Array.mem_iff_getElem.1 he
              refine ⟨j, hj, ?_⟩
              rw [hje]
              have := hcb e he
              simp; omega
            simp [hall]
        have hgt : ∀ e ∈ left, ∃ (j : Nat) (b : Nat) (k v : V), es[j]? = some (b, k, v) ∧ e.born = b ∧ VR C k e.key ∧ VR C v e.val := by
          intro e he
          obtain ⟨j, hj⟩ := Array.mem_iff_getElem?.1 (hlm e he).1
          have hjl : j < es.length := by have := (Array.getElem?_eq_some_iff.1 hj).1; omega
          exact ⟨j, _, _, _, List.getElem?_eq_getElem hjl, hv j es[j].1 es[j].2.1 es[j].2.2 e (List.getElem?_eq_getElem hjl) hj⟩
        by_cases hemp : left = #[]
        · have hch : (choose (.mapNext 1)).run P C.w = .ok 0 C.w := by simp [choose, Sem.run, Question.forced]
          have hrun : (Instr.next (.pointer (some ⟨blk, 0, none⟩)) false ty).run P C.w = .ok (.tuple #[.bool false]) C.w := by
            simp only [Instr.next, Sem.run_bind, hg1, Result.andThen_ok, hg2, hguard, Bool.false_eq_true, if_false, hleft, hold, hnew, Array.append_empty, hemp]
            simp [Question.forced]
          rw [hrun]
          refine Done.same h (.tup _ #[.bool false] rfl (fun j x c hx hc => by
            match j with
            | 0 => simp at hx hc; subst hx; subst hc; exact .b _
            | j + 1 => simp at hx)) (hend (fun e he => ?_))
          obtain ⟨j, hj⟩ := List.mem_iff_getElem?.1 he
          have hjl : j < ces.size := by have := (List.getElem?_eq_some_iff.1 hj).1; omega
          have hbo := (hv j e.1 e.2.1 e.2.2 ces[j] hj (Array.getElem?_eq_getElem hjl)).1
          rcases Decidable.em (e.1 ∈ seen) with hin | hin
          · exact hin
          · exfalso
            have : ces[j] ∈ left := by
              rw [← hleft]
              simp only [Array.mem_filter, Bool.not_eq_true']
              exact ⟨Array.getElem_mem hjl, by rw [hbo]; simpa using hin⟩
            rw [hemp] at this
            simp at this
        · have hne : 0 < left.size := by
            rcases Nat.eq_zero_or_pos left.size with h0 | h0
            · exact absurd (Array.eq_empty_of_size_eq_zero h0) hemp
            · exact h0
          obtain ⟨ix, w1, hch, hix, hw1⟩ : ∃ ix w1, (choose (.mapNext left.size)).run P C.w = .ok ix w1 ∧ ix < left.size ∧ (w1 = C.w ∨ w1 = C.w.drew) := by
            by_cases h1 : left.size ≤ 1
            · exact ⟨0, C.w, by simp [choose, Sem.run, Question.forced, h1], hne, .inl rfl⟩
            · exact ⟨C.w.tape C.w.drawn (.mapNext left.size) % left.size, C.w.drew, by simp [choose, Sem.run, Question.forced, h1, Question.cut], Nat.mod_lt _ hne, .inr rfl⟩
          have hheap : w1.heap = C.w.heap := by rcases hw1 with rfl | rfl <;> rfl
          have hset : ∀ o, (setObj blk o).run P w1 = .ok () (w1.putObj blk o) := fun o => by simp [setObj, Sem.run, hheap, hb, World.putObj]
          have hie : left.isEmpty = false := by simp [Array.isEmpty]; omega
          have hrun : (Instr.next (.pointer (some ⟨blk, 0, none⟩)) false ty).run P C.w = .ok (.tuple #[.bool true, left[ix].key, left[ix].val]) (w1.putObj blk (.mapIter (some mb) stepped (seen.toArray.push left[ix].born) stepped)) := by
            simp only [Instr.next, Sem.run_bind, hg1, Result.andThen_ok, hg2, hguard, Bool.false_eq_true, if_false, hleft, hold, hnew, Array.append_empty, hie, Array.empty_append, Array.size_map, hch]
            simp only [Array.getElem?_map, Array.getElem?_eq_getElem hix, Option.map_some, Sem.run_bind, hset, Result.andThen_ok, Sem.run_pure]
          rw [hrun]
          obtain ⟨j, b, k, v, hej, hbo, hkv, hvv⟩ := hgt left[ix] (Array.getElem_mem hix)
          have hnin := (hlm left[ix] (Array.getElem_mem hix)).2
          have hk := hstep (b, k, v) (List.mem_of_getElem? hej) (by simpa [hbo] using hnin)
          have q : R (C.world w1) σ ∧ Ext C (C.world w1) := by
            rcases hw1 with rfl | rfl
            · exact ⟨h, Ext.refl C⟩
            · exact h.quiet rfl rfl rfl (Nat.le_refl _) (fun _ _ => rfl)
          have hb1 : (C.world w1).w.heap[blk]? = some (.mapIter (some mb) stepped seen.toArray stepped) := by show w1.heap[blk]? = _; rw [hheap]; exact hb
          have hlt : blk < w1.heap.size := (Array.getElem?_eq_some_iff.1 hb1).1
          obtain ⟨r1, r2⟩ := q.1.turn (o' := .it mid stepped (seen ++ [b]) stepped) (bs' := 0) ho hρ (.inl ⟨rfl, rfl⟩) (w' := w1.putObj blk (.mapIter (some mb) stepped (seen.toArray.push left[ix].born) stepped)) rfl rfl rfl (by simp [Cx.world])
            (fun b _ hne => World.putObj_heap_other hne) (fun cc t hc => by rw [hb1] at hc; cases hc)
            (fun ex => .it mid stepped (seen ++ [b]) stepped mb rfl ((hm.ext q.2 h.wf).ext ex q.1.wf) (by
              have : (seen ++ [b]).toArray = seen.toArray.push left[ix].born := by rw [hbo]; simp
              rw [this]; exact World.putObj_heap_same hlt))
          refine ⟨_, _, _, _, rfl, r1, q.2.trans r2, ?_, hk⟩
          refine .tup _ #[.bool true, left[ix].key, left[ix].val] rfl (fun j x c hx hc => ?_)
          match j with
          | 0 => simp at hx hc; subst hx; subst hc; exact .b _
          | 1 => simp at hx hc; subst hx; subst hc; exact (hkv.ext q.2 h.wf).ext r2 q.1.wf
          | 2 => simp at hx hc; subst hx; subst hc; exact (hvv.ext q.2 h.wf).ext r2 q.1.wf
          | j + 3 => simp at hx
      · exact hk.elim
    · exact hk.elim
  all_goals exact hk.elim

theorem ent_sound (h : R C σ) {x : V} {c : Value} (hx : VR C x c) {K : V → Prop} (hk : entK x σ K) : Done C (fun v σ' => σ' = σ ∧ K v) ((Instr.entry c).run P C.w) := by
  cases x <;> simp only [entK] at hk
  case p id ver off =>
    split at hk
    · rename_i mid since seen stepped ho
      split at hk
      · rename_i es clock b hom hlast
        obtain ⟨rfl, rfl, rfl, hk⟩ := hk
        obtain ⟨blk, mb, rfl, hρ, hm, hb⟩ := it_inv h ho hx
        obtain ⟨mblk, mbs, ces, hE, hmρ, hmb, hl, hv⟩ := map_inv_live h hom hm
        cases hE
        split at hk
        · rename_i e he
          have hg1 : (getObj blk).run P C.w = .ok (.mapIter (some mb) since seen.toArray clock) C.w := by simp [getObj, Sem.run, hb]
          have hg2 : (getObj mb).run P C.w = .ok (.map ces clock) C.w := by simp [getObj, Sem.run, hmb]
          have hback : seen.toArray.back? = some b := by simpa using hlast
          have key : ∀ (es : List (Nat × V × V)) (cl : List MapEntry), cl.length = es.length → (∀ (j b : Nat) (k v : V) (e : MapEntry), es[j]? = some (b, k, v) → cl[j]? = some e → e.born = b ∧ VR C k e.key ∧ VR C v e.val) →
              es.find? (fun e => e.1 == b) = some e → ∃ ce, cl.find? (fun e => e.born == b) = some ce ∧ VR C e.2.1 ce.key ∧ VR C e.2.2 ce.val := by
            intro es
            induction es with
            | nil => intro cl _ _ hf; simp at hf
            | cons x es ih =>
              intro cl hlen hv hf
              cases cl with
              | nil => simp at hlen
              | cons c cl =>
                have h0 := hv 0 x.1 x.2.1 x.2.2 c rfl rfl
                rw [List.find?_cons] at hf ⊢
                rw [h0.1]
                split at hf
                · rename_i hx
                  cases hf
                  exact ⟨c, rfl, h0.2⟩
                · rename_i hx
                  exact ih cl (by simpa using hlen) (fun j b k v e h1 h2 => hv (j + 1) b k v e (by simpa using h1) (by simpa using h2)) hf
          obtain ⟨ce, hce, v1, v2⟩ := key es ces.toList (by simpa using hl) (fun j b k v e h1 h2 => hv j b k v e h1 (by simpa using h2)) he
          have hce' : ces.find? (fun e => e.born == b) = some ce := by rw [← Array.find?_toList]; exact hce
          have hrun : (Instr.entry (.pointer (some ⟨blk, 0, none⟩))).run P C.w = .ok (.tuple #[ce.key, ce.val]) C.w := by
            simp only [Instr.entry, Sem.run_bind, hg1, Result.andThen_ok, hback, hg2, bne_self_eq_false, Bool.false_eq_true, if_false, hce', Sem.run_pure]
          rw [hrun]
          exact Done.same h (.tup _ #[ce.key, ce.val] rfl (fun j x c hx hc => by
            match j with
            | 0 => simp at hx hc; subst hx; subst hc; exact v1
            | 1 => simp at hx hc; subst hx; subst hc; exact v2
            | j + 2 => simp at hx)) ⟨rfl, hk⟩
        · exact hk.elim
      all_goals exact hk.elim
    · exact hk.elim
  all_goals exact hk.elim

end
end Go.Ab
