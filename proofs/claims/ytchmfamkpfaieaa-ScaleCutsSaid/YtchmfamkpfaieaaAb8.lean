/- The abstract layer, part 8: equality of structs and arrays of whole numbers; maps keyed by whole numbers or structs of them. -/
import Derived.Test.YtchmfamkpfaieaaAb7
import Derived.Laws.StructEq
import Derived.DeepKeys3
set_option linter.unusedVariables false
set_option linter.unusedSimpArgs false
namespace Go.Ab
open Go

section
variable {P : Program} {C : Cx} {σ : List O}

/-- The machine's cells of whole numbers. -/
def iv (q : IntKind) (l : List Int) : Array Value := (l.map (Value.int q)).toArray

theorem intsK_sound {q : IntKind} : ∀ {xs : List V} {a : List Int} {cs : List Value}, intsK q xs = some a → cs.length = xs.length →
    (∀ (j : Nat) (x : V) (c : Value), xs[j]? = some x → cs[j]? = some c → VR C x c) → cs = a.map (Value.int q) ∧ a.length = xs.length
  | [], a, cs, h, hl, hv => by
    simp [intsK] at h; subst h
    exact ⟨List.eq_nil_of_length_eq_zero hl, rfl⟩
  | x :: xs, a, [], h, hl, hv => by simp at hl
  | x :: xs, a, c :: cs, h, hl, hv => by
    cases x <;> simp only [intsK, reduceCtorEq] at h
    case i k n =>
      split at h
      · rename_i hk
        subst hk
        simp only [Option.map_eq_some_iff] at h
        obtain ⟨b, hb, rfl⟩ := h
        obtain ⟨p, p2⟩ := intsK_sound hb (by simpa using hl) (fun j y d hy hd => hv (j + 1) y d (by simpa using hy) (by simpa using hd))
        exact ⟨by rw [int_inv (hv 0 _ _ rfl rfl), p]; rfl, by simp [p2]⟩
      · cases h

theorem agg_ints {q : IntKind} {xs : List V} {a : List Int} {c : Value} (hx : VR C (.agg xs) c) (h : intsK q xs = some a) : c = .agg (iv q a) ∧ a.length = xs.length := by
  obtain ⟨ds, rfl, hc⟩ := agg_inv hx
  obtain ⟨e, e2⟩ := intsK_sound h hc.1 hc.2.2
  exact ⟨by rw [iv, ← e], e2⟩

theorem iv_get {q : IntKind} {l : List Int} {j : Nat} (h : j < l.length) : (iv q l)[j]? = some (.int q l[j]) := by
  simp [iv, h]

theorem part_iv {t : TypeId} {q : IntKind} (ht : P.underlying t = some (.int q)) {l : List Int} {j : Nat} (h : j < l.length) (w : World) : (part t (iv q l) j).run P w = .ok (.int q l[j]) w := by
  have ha : aggP P t = some false := by simp [aggP, ht]
  simp [part, run_isAgg_false ha, iv_get h]

theorem eqFields_ints {q : IntKind} (d : Nat) (a b : List Int) (w : World) : ∀ (fs : List Field) (j : Nat), intFields P q fs j = true → a.length = j + fs.length → b.length = j + fs.length →
    (Op.eqFields (d + 1) (iv q a) (iv q b) fs).run P w = .ok (decide (a.drop j = b.drop j)) w
  | [], j, _, ha, hb => by
    have e1 : a.drop j = [] := List.drop_of_length_le (by simpa using Nat.le_of_eq ha)
    have e2 : b.drop j = [] := List.drop_of_length_le (by simpa using Nat.le_of_eq hb)
    simp [Op.eqFields, e1, e2]
  | f :: fs, j, h, ha, hb => by
    simp only [intFields, Bool.and_eq_true] at h
    obtain ⟨⟨⟨⟨h1, h2⟩, h3⟩, h4⟩, h5⟩ := h
    have ht : P.underlying f.type = some (.int q) := by
      split at h4
      · rename_i k hk; rw [hk]; simp at h4; rw [h4]
      · cases h4
    have hja : j < a.length := by simp at ha; omega
    have hjb : j < b.length := by simp at hb; omega
    have hoff : f.offset = j := by simpa using h2
    have hne : f.name ≠ "_" := by simpa using h1
    have ih := eqFields_ints d a b w fs (j + 1) h5 (by simp at ha; omega) (by simp at hb; omega)
    simp only [Op.eqFields, hne, ne_eq, not_false_eq_true, if_true, Sem.run_bind, hoff, part_iv ht hja, part_iv ht hjb, Result.andThen_ok, run_equalIn_int w d f.type q q a[j] b[j] ht]
    have hd : (a.drop j = b.drop j) ↔ (a[j] = b[j] ∧ a.drop (j + 1) = b.drop (j + 1)) := by
      rw [List.drop_eq_getElem_cons hja, List.drop_eq_getElem_cons hjb, List.cons.injEq]
    simp only [hd]
    by_cases he : a[j] = b[j]
    · have : (!(a[j] == b[j])) = false := by simp [he]
      rw [this]
      simp only [Bool.false_eq_true, if_false, ih, he, true_and]
    · have : (!(a[j] == b[j])) = true := by simp [he]
      rw [this]
      simp [he]

theorem equal_struct {q : IntKind} {t : TypeId} {fs : Array Field} (ht : P.underlying t = some (.struct fs)) (hp : P.stoodInHeld t = false) (hi : intFields P q fs.toList 0 = true) (d : Nat) {a b : List Int}
    (ha : a.length = fs.size) (hb : b.length = fs.size) (w : World) : (Op.equalIn (d + 2) t (.agg (iv q a)) (.agg (iv q b))).run P w = .ok (decide (a = b)) w := by
  have hf : P.fieldsOf t = fs := by simp [Program.fieldsOf, ht]
  rw [run_equalIn_struct w (d + 1) t _ _ (by rw [hf]; exact ht) hp, hf, eqFields_ints d a b w fs.toList 0 hi (by simpa using ha) (by simpa using hb)]
  simp

theorem equal_array {q : IntKind} {t e : TypeId} {n : Nat} (ht : P.underlying t = some (.array n e)) (he : P.underlying e = some (.int q)) (hs : szP P e = some 1) (d : Nat) {a b : List Int}
    (ha : a.length = n) (hb : b.length = n) (w : World) : (Op.equalIn (d + 2) t (.agg (iv q a)) (.agg (iv q b))).run P w = .ok (decide (a = b)) w := by
  have key : ∀ (k j : Nat), j + k = n →
      ((forIn (List.range' j k) ((none, ()) : Option Bool × Unit) fun i r => do
        let __do_lift ← part e (iv q a) i
        let __do_lift_1 ← part e (iv q b) i
        let __do_lift ← Op.equalIn (d + 1) e __do_lift __do_lift_1
        if (!__do_lift) = true then pure (ForInStep.done (some false, ())) else pure (ForInStep.yield (none, ()))).run P w) =
        .ok (if a.drop j = b.drop j then (none, ()) else (some false, ())) w := by
    intro k
    induction k with
    | zero =>
      intro j hj
      have e1 : a.drop j = [] := List.drop_of_length_le (by omega)
      have e2 : b.drop j = [] := List.drop_of_length_le (by omega)
      simp [e1, e2]
    | succ k ih =>
      intro j hj
      have hja : j < a.length := by omega
      have hjb : j < b.length := by omega
      rw [List.range'_succ, List.forIn_cons]
      simp only [Sem.run_bind, part_iv he hja, part_iv he hjb, Result.andThen_ok, run_equalIn_int w d e q q a[j] b[j] he]
      have hd : (a.drop j = b.drop j) ↔ (a[j] = b[j] ∧ a.drop (j + 1) = b.drop (j + 1)) := by
        rw [List.drop_eq_getElem_cons hja, List.drop_eq_getElem_cons hjb, List.cons.injEq]
      simp only [hd]
      by_cases hE : a[j] = b[j]
      · have : (!(a[j] == b[j])) = false := by simp [hE]
        rw [this]
        simp only [Bool.false_eq_true, if_false, Sem.run_pure, Result.andThen_ok, ih (j + 1) (by omega), hE, true_and]
      · have : (!(a[j] == b[j])) = true := by simp [hE]
        rw [this]
        simp [hE]
  have h0 := key n 0 (by omega)
  simp only [List.drop_zero] at h0
  rw [Op.equalIn]
  simp only [Sem.run_bind, run_underlying ht, Result.andThen_ok, run_sizeOf hs, Nat.mul_one, Std.Legacy.Range.forIn_eq_forIn_range', Std.Legacy.Range.size, Nat.sub_zero, Nat.add_one_sub_one, Nat.div_one]
  rw [h0]
  by_cases hE : a = b <;> simp [hE]

theorem eqGuard_ok {op : BinOp} {t : TypeId} {xs ys : Array Value} (hg : P.eqGuardType P.depth t = false) (x y : Operand) (w : World) : (eqGuard op t x y (.agg xs) (.agg ys)).run P w = .ok () w := by
  unfold eqGuard
  cases op <;> simp [hg]

theorem eqv_sound (h : R C σ) {q : IntKind} {n : Nat} {neq : Bool} {x y : V} {cx cy : Value} (hx : VR C x cx) (hy : VR C y cy) {t : TypeId} (ht : eqP P t = some (q, n)) {K : V → Prop} (hk : eqvK q n neq x y K) (ox oy : Operand) :
    Done C (fun v σ' => σ' = σ ∧ K v) ((do eqGuard (if neq then .neq else .eql) t ox oy cx cy; binOp (if neq then .neq else .eql) t cx cy : Sem Value).run P C.w) := by
  cases x <;> cases y <;> simp only [eqvK] at hk
  case agg.agg xs ys =>
    split at hk
    · rename_i a b ha hb
      obtain ⟨hlx, hly, hk⟩ := hk
      obtain ⟨rfl, l1⟩ := agg_ints hx ha
      obtain ⟨rfl, l2⟩ := agg_ints hy hb
      unfold eqP at ht
      split at ht
      · cases ht
      · rename_i hg
        have hg' : P.eqGuardType P.depth t = false := by simpa using hg
        have heq : (Op.equal t (.agg (iv q a)) (.agg (iv q b))).run P C.w = .ok (decide (a = b)) C.w := by
          show (Op.equalIn (9998 + 2) t _ _).run P C.w = _
          split at ht
          · rename_i fs hu
            split at ht
            · rename_i q' hq
              split at ht
              · rename_i hc
                simp only [Option.some.injEq, Prod.mk.injEq] at ht
                obtain ⟨rfl, rfl⟩ := ht
                exact equal_struct hu hc.2 hc.1 9998 (by omega) (by omega) _
              · cases ht
            · cases ht
          · rename_i m e hu
            split at ht
            · rename_i k' hk'
              split at ht
              · rename_i hs
                simp only [Option.some.injEq, Prod.mk.injEq] at ht
                obtain ⟨rfl, rfl⟩ := ht
                exact equal_array hu hk' hs 9998 (by omega) (by omega) _
              · cases ht
            · cases ht
          · cases ht
        simp only [Sem.run_bind, eqGuard_ok hg', Result.andThen_ok]
        cases neq with
        | true =>
          simp only [if_true, binOp, Sem.run_bind, heq, Result.andThen_ok, Sem.run_pure]
          exact Done.same h (.b _) ⟨rfl, hk⟩
        | false =>
          simp only [Bool.false_eq_true, if_false, binOp, Sem.run_bind, heq, Result.andThen_ok, Sem.run_pure]
          exact Done.same h (.b _) ⟨rfl, hk⟩
    · exact hk.elim
  all_goals exact hk.elim

theorem eqb_sound (h : R C σ) {neq : Bool} {x y : V} {cx cy : Value} (hx : VR C x cx) (hy : VR C y cy) {t : TypeId} (ht : P.underlying t = some .bool) {K : V → Prop} (hk : eqbK neq x y K) (ox oy : Operand) :
    Done C (fun v σ' => σ' = σ ∧ K v) ((do eqGuard (if neq then .neq else .eql) t ox oy cx cy; binOp (if neq then .neq else .eql) t cx cy : Sem Value).run P C.w) := by
  cases x <;> cases y <;> simp only [eqbK] at hk
  case b.b a b =>
    obtain rfl := bool_inv hx
    obtain rfl := bool_inv hy
    have hg : ∀ op, (eqGuard op t ox oy (.bool a) (.bool b)).run P C.w = .ok () C.w := fun op => by unfold eqGuard; cases op <;> simp
    have heq : (Op.equal t (.bool a) (.bool b)).run P C.w = .ok (a == b) C.w := by
      show (Op.equalIn (9999 + 1) t _ _).run P C.w = _
      exact run_equalIn_bool' C.w 9999 t a b ht
    simp only [Sem.run_bind, hg, Result.andThen_ok]
    cases neq with
    | true =>
      simp only [if_true, binOp, Sem.run_bind, heq, Result.andThen_ok, Sem.run_pure]
      exact Done.same h (.b _) ⟨rfl, hk⟩
    | false =>
      simp only [Bool.false_eq_true, if_false, binOp, Sem.run_bind, heq, Result.andThen_ok, Sem.run_pure]
      exact Done.same h (.b _) ⟨rfl, hk⟩
  all_goals exact hk.elim

/-! ### Maps -/
/-- The machine's key. -/
def kval (q : IntKind) (n : Nat) (ks : List Int) : Value := if n = 0 then .int q (ks.headD 0) else .agg (iv q ks)
def klen (n : Nat) (ks : List Int) : Prop := if n = 0 then ks.length = 1 else ks.length = n

theorem keyOf_sound {q : IntKind} {n : Nat} {k : V} {c : Value} (hv : VR C k c) {ks : List Int} (h : keyOf q n k = some ks) : c = kval q n ks ∧ klen n ks := by
  cases k <;> simp only [keyOf, reduceCtorEq] at h
  case agg cs =>
    split at h
    · rename_i hc
      obtain ⟨rfl, hl⟩ := agg_ints hv h
      exact ⟨by simp [kval, hc.2], by simp [klen, hc.2]; omega⟩
    · cases h
  case i k' a =>
    split at h
    · rename_i hc
      obtain ⟨rfl, rfl⟩ := hc
      obtain rfl := int_inv hv
      cases h
      exact ⟨rfl, rfl⟩
    · cases h

theorem kval_inj {q : IntKind} {n : Nat} {a b : List Int} (ha : klen n a) (hb : klen n b) (h : kval q n a = kval q n b) : a = b := by
  unfold klen at ha hb
  unfold kval at h
  by_cases hn : n = 0
  · simp only [hn, if_true] at ha hb h
    match a, b, ha, hb with
    | [x], [y], _, _ => simp at h; rw [h]
  · simp only [hn, if_false, Value.agg.injEq, iv] at h
    have := congrArg Array.toList h
    simp only [List.toList_toArray] at this
    have hinj : ∀ (a b : List Int), a.map (Value.int q) = b.map (Value.int q) → a = b := by
      intro a
      induction a with
      | nil => intro b h; cases b with | nil => rfl | cons _ _ => simp at h
      | cons x a ih => intro b h; cases b with | nil => simp at h | cons y b => simp at h; rw [h.1, ih b (by simpa using h.2)]
    exact hinj a b this

theorem key_cases {key : TypeId} {q : IntKind} {n : Nat} (h : keyP P key = some (q, n)) :
    (n = 0 ∧ P.underlying key = some (.int q)) ∨ (n ≠ 0 ∧ ∃ fs : Array Field, P.underlying key = some (.struct fs) ∧ fs.size = n ∧ intFields P q fs.toList 0 = true ∧ P.stoodInHeld key = false) := by
  unfold keyP at h
  split at h
  · rename_i k hk
    simp only [Option.some.injEq, Prod.mk.injEq] at h
    obtain ⟨rfl, rfl⟩ := h
    exact .inl ⟨rfl, hk⟩
  · rename_i fs hu
    split at h
    · rename_i q' hq
      split at h
      · rename_i hc
        simp only [Option.some.injEq, Prod.mk.injEq] at h
        obtain ⟨rfl, rfl⟩ := h
        refine .inr ⟨?_, fs, hu, rfl, hc.1, hc.2⟩
        intro h0
        have : fs.toList = [] := List.eq_nil_of_length_eq_zero (by simpa using h0)
        rw [this] at hq
        simp [firstKind] at hq
      · cases h
    · cases h
  · cases h

theorem checkKey_d {key : TypeId} {q : IntKind} {n : Nat} (hk : keyP P key = some (q, n)) {ks : List Int} (hl : klen n ks) (em : Bool) (w : World) (d : Nat) : (Instr.checkKey em (d + 2) key (kval q n ks)).run P w = .ok () w := by
  rcases key_cases hk with ⟨rfl, hu⟩ | ⟨hn, fs, hu, hsz, hi, hst⟩
  · simp [kval, Instr.checkKey, run_underlying hu]
  · have hlen : ks.length = n := by simpa [klen, hn] using hl
    have hone : ∀ (t : TypeId) (a : Int), P.underlying t = some (.int q) → (Instr.checkKey em (d + 1) t (.int q a)).run P w = .ok () w := fun t a ht => by
      simp [Instr.checkKey, run_underlying ht]
    have key : ∀ (l : List Field) (j : Nat), intFields P q l j = true → j + l.length = n →
        ((forIn l PUnit.unit fun (f : Field) (r : PUnit) => do
          if f.name ≠ "_" then do
            let x ← part f.type (iv q ks) f.offset
            Instr.checkKey em (d + 1) f.type x
            pure (ForInStep.yield PUnit.unit)
          else pure (ForInStep.yield PUnit.unit) : Sem PUnit).run P w) = .ok PUnit.unit w := by
      intro l
      induction l with
      | nil => intro j _ _; simp
      | cons f l ih =>
        intro j h hj
        simp only [intFields, Bool.and_eq_true] at h
        obtain ⟨⟨⟨⟨h1, h2⟩, h3⟩, h4⟩, h5⟩ := h
        have ht : P.underlying f.type = some (.int q) := by
          split at h4
          · rename_i k hk; rw [hk]; simp at h4; rw [h4]
          · cases h4
        have hjl : j < ks.length := by simp at hj; omega
        have hoff : f.offset = j := by simpa using h2
        have hne : f.name ≠ "_" := by simpa using h1
        rw [List.forIn_cons]
        simp only [hne, ne_eq, not_false_eq_true, if_true, Sem.run_bind, hoff, part_iv ht hjl, Result.andThen_ok, hone f.type _ ht, Sem.run_pure]
        exact ih (j + 1) h5 (by simp at hj; omega)
    have h0 := key fs.toList 0 hi (by simp [hsz])
    simp only [kval, hn, if_false]
    rw [Instr.checkKey]
    simp only [Sem.run_bind, run_underlying hu, Result.andThen_ok, ← Array.forIn_toList]
    simp at h0 ⊢
    rw [h0]
    rfl

theorem checkKey_ok {key : TypeId} {q : IntKind} {n : Nat} (hk : keyP P key = some (q, n)) {ks : List Int} (hl : klen n ks) (em : Bool) (w : World) : (Instr.checkKey em 10000 key (kval q n ks)).run P w = .ok () w :=
  checkKey_d hk hl em w 9998

/-- Where a key stands. -/
theorem find_sound {key : TypeId} {q : IntKind} {n : Nat} (hk : keyP P key = some (q, n)) {ks : List Int} (hl : klen n ks) (w : World) :
    ∀ (l : List (V × V)) (es : List MapEntry), es.length = l.length → (∀ (j : Nat) (k v : V) (e : MapEntry), l[j]? = some (k, v) → es[j]? = some e → VR C k e.key ∧ VR C v e.val) → keysOK q n l →
    (Instr.findKey key (kval q n ks) es).run P w = .ok ((idxM q n ks l).bind fun i => (es[i]?).map fun e => (i, e.val)) w ∧ findM q n ks l = (idxM q n ks l).bind fun i => (l[i]?).map (·.2) := by
  have step : ∀ (k v : V) (e : MapEntry) (ks' : List Int), VR C k e.key → keyOf q n k = some ks' → e.key = kval q n ks' ∧ klen n ks' := fun k v e ks' h1 h2 => keyOf_sound h1 h2
  have hM : ∀ (l : List (V × V)), findM q n ks l = (idxM q n ks l).bind fun i => (l[i]?).map (·.2) := by
    intro l
    induction l with
    | nil => rfl
    | cons x l ih =>
      obtain ⟨k, v⟩ := x
      simp only [findM, idxM]
      split
      · simp
      · rw [ih]; cases idxM q n ks l <;> simp
  intro l es hlen hv hok
  refine ⟨?_, hM l⟩
  rcases key_cases hk with ⟨rfl, hu⟩ | ⟨hn, fs, hu, hsz, hi, hst⟩
  · have now : ∀ (l : List (V × V)) (es : List MapEntry) (i0 : Nat), es.length = l.length → (∀ (j : Nat) (k v : V) (e : MapEntry), l[j]? = some (k, v) → es[j]? = some e → VR C k e.key ∧ VR C v e.val) → keysOK q 0 l →
        Instr.findNow (.int q) (kval q 0 ks) es i0 = some ((idxM q 0 ks l).bind fun i => (es[i]?).map fun e => (i0 + i, e.val)) := by
      intro l
      induction l with
      | nil => intro es i0 hlen _ _; have : es = [] := List.eq_nil_of_length_eq_zero hlen; subst this; rfl
      | cons x l ih =>
        obtain ⟨k, v⟩ := x
        intro es i0 hlen hv hok
        cases es with
        | nil => simp at hlen
        | cons e es =>
          obtain ⟨ks', hks'⟩ := hok (k, v) (by simp)
          obtain ⟨he, hl'⟩ := keyOf_sound (hv 0 k v e rfl rfl).1 hks'
          have ih' := ih es (i0 + 1) (by simpa using hlen) (fun j k v e hj hk => hv (j + 1) k v e (by simpa using hj) (by simpa using hk)) (fun x hx => hok x (by simp [hx]))
          have hsn : Instr.sameNow (.int q) (kval q 0 ks) e.key = some (decide (ks = ks')) := by
            rw [he]
            simp only [kval, if_true, Instr.sameNow]
            rw [beq_dec]
            congr 1
            unfold klen at hl hl'
            simp only [if_true] at hl hl'
            match ks, ks', hl, hl' with
            | [a], [b], _, _ => simp
          simp only [Instr.findNow, hsn, idxM, hks', Option.some.injEq]
          by_cases hE : ks = ks'
          · subst hE
            simp
          · have hE' : ¬ ks' = ks := fun e => hE e.symm
            simp only [hE, hE', decide_false, if_false]
            rw [ih']
            cases idxM q 0 ks l with
            | none => rfl
            | some i => simp [Nat.add_assoc, Nat.add_comm 1 i]
    have h0 := now l es 0 hlen hv hok
    simp only [Nat.zero_add] at h0
    simp only [Instr.findKey, Sem.run_bind, run_underlying hu, Result.andThen_ok, h0, Sem.run_pure]
  · have ask : ∀ (l : List (V × V)) (es : List MapEntry) (i0 : Nat), es.length = l.length → (∀ (j : Nat) (k v : V) (e : MapEntry), l[j]? = some (k, v) → es[j]? = some e → VR C k e.key ∧ VR C v e.val) → keysOK q n l →
        (Instr.findAsking key (kval q n ks) es i0).run P w = .ok ((idxM q n ks l).bind fun i => (es[i]?).map fun e => (i0 + i, e.val)) w := by
      intro l
      induction l with
      | nil => intro es i0 hlen _ _; have : es = [] := List.eq_nil_of_length_eq_zero hlen; subst this; simp [Instr.findAsking, idxM]
      | cons x l ih =>
        obtain ⟨k, v⟩ := x
        intro es i0 hlen hv hok
        cases es with
        | nil => simp at hlen
        | cons e es =>
          obtain ⟨ks', hks'⟩ := hok (k, v) (by simp)
          obtain ⟨he, hl'⟩ := keyOf_sound (hv 0 k v e rfl rfl).1 hks'
          have ih' := ih es (i0 + 1) (by simpa using hlen) (fun j k v e hj hk => hv (j + 1) k v e (by simpa using hj) (by simpa using hk)) (fun x hx => hok x (by simp [hx]))
          have hE1 : (Op.equal key (kval q n ks) e.key).run P w = .ok (decide (ks = ks')) w := by
            rw [he]
            simp only [kval, hn, if_false]
            show (Op.equalIn (9998 + 2) key _ _).run P w = _
            exact equal_struct hu hst hi 9998 (by simpa [klen, hn, hsz] using hl) (by simpa [klen, hn, hsz] using hl') w
          simp only [Instr.findAsking, Sem.run_bind, hE1, Result.andThen_ok, idxM, hks', Option.some.injEq]
          by_cases hE : ks = ks'
          · subst hE
            simp
          · have hE' : ¬ ks' = ks := fun e => hE e.symm
            simp only [hE, hE', decide_false, if_false, Bool.false_eq_true]
            rw [ih']
            cases idxM q n ks l with
            | none => rfl
            | some i => simp [Nat.add_assoc, Nat.add_comm 1 i]
    cases es with
    | nil =>
      have : l = [] := List.eq_nil_of_length_eq_zero hlen.symm
      subst this
      simp [Instr.findKey, run_underlying hu, Instr.findNow, idxM]
    | cons e es =>
      have hnone : Instr.findNow (.struct fs) (kval q n ks) (e :: es) 0 = none := by
        simp [Instr.findNow, Instr.sameNow]
      have h0 := ask l (e :: es) 0 hlen hv hok
      simp only [Nat.zero_add] at h0
      simp only [Instr.findKey, Sem.run_bind, run_underlying hu, Result.andThen_ok, hnone, h0]

end
end Go.Ab
