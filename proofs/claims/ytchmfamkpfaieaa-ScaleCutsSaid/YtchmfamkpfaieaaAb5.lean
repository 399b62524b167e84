/- The abstract layer, part 5: numbers, addresses, slices, append, copy. -/
import Derived.Test.YtchmfamkpfaieaaAb4
set_option linter.unusedVariables false
set_option linter.unusedSimpArgs false
namespace Go.Ab
open Go

section
variable {P : Program} {C : Cx} {σ : List O}

/-! ### Numbers -/
theorem beq_dec (a b : Int) : (a == b) = decide (a = b) := by
  by_cases h : a = b <;> simp [h]
theorem int_inv {k : IntKind} {n : Int} {c : Value} (h : VR C (.i k n) c) : c = .int k n := by cases h; rfl
theorem bool_inv {x : Bool} {c : Value} (h : VR C (.b x) c) : c = .bool x := by cases h; rfl

theorem bin_sound (h : R C σ) {op : BinOp} {x y : V} {cx cy : Value} (hx : VR C x cx) (hy : VR C y cy) {K : V → Prop} (hk : binK op x y K) (t : TypeId) (ox oy : Operand) :
    Done C (fun v σ' => σ' = σ ∧ K v) ((do eqGuard op t ox oy cx cy; binOp op t cx cy : Sem Value).run P C.w) := by
  unfold binK at hk
  split at hk
  · rename_i k a k' b
    obtain rfl := int_inv hx
    obtain rfl := int_inv hy
    have hg : (eqGuard op t ox oy (.int k a) (.int k' b)).run P C.w = .ok () C.w := by
      unfold eqGuard; cases op <;> simp
    simp only [Sem.run_bind, hg, Result.andThen_ok]
    cases op <;> simp only at hk
    case shl =>
      have : (binOp .shl t (.int k a) (.int k' b)).run P C.w = .ok (.int k (k.wrap (a * 2 ^ (min b.toNat k.bits)))) C.w := by
        simp [binOp, Op.shift, show ¬ b < 0 by omega]
      rw [this]; exact Done.same h (.i _ _) ⟨rfl, hk.2⟩
    case shr =>
      have : (binOp .shr t (.int k a) (.int k' b)).run P C.w = .ok (.int k (a.fdiv (2 ^ (min b.toNat k.bits)))) C.w := by
        simp [binOp, Op.shift, show ¬ b < 0 by omega]
      rw [this]; exact Done.same h (.i _ _) ⟨rfl, hk.2⟩
    case quo =>
      obtain ⟨rfl, hb, hk⟩ := hk
      have : (binOp .quo t (.int k a) (.int k b)).run P C.w = .ok (.int k (k.wrap (a.tdiv b))) C.w := by simp [binOp, Op.intDiv, hb]
      rw [this]; exact Done.same h (.i _ _) ⟨rfl, hk⟩
    case rem =>
      obtain ⟨rfl, hb, hk⟩ := hk
      have : (binOp .rem t (.int k a) (.int k b)).run P C.w = .ok (.int k (a.tmod b)) C.w := by simp [binOp, Op.intDiv, hb]
      rw [this]; exact Done.same h (.i _ _) ⟨rfl, hk⟩
    case add =>
      obtain ⟨rfl, hk⟩ := hk
      have : (binOp .add t (.int k a) (.int k b)).run P C.w = .ok (.int k (k.wrap (a + b))) C.w := by simp [binOp, Op.intArith]
      rw [this]; exact Done.same h (.i _ _) ⟨rfl, hk⟩
    case sub =>
      obtain ⟨rfl, hk⟩ := hk
      have : (binOp .sub t (.int k a) (.int k b)).run P C.w = .ok (.int k (k.wrap (a - b))) C.w := by simp [binOp, Op.intArith]
      rw [this]; exact Done.same h (.i _ _) ⟨rfl, hk⟩
    case mul =>
      obtain ⟨rfl, hk⟩ := hk
      have : (binOp .mul t (.int k a) (.int k b)).run P C.w = .ok (.int k (k.wrap (a * b))) C.w := by simp [binOp, Op.intArith]
      rw [this]; exact Done.same h (.i _ _) ⟨rfl, hk⟩
    case and =>
      obtain ⟨rfl, hk⟩ := hk
      have : (binOp .and t (.int k a) (.int k b)).run P C.w = .ok (.int k (bitop .and k a b)) C.w := by simp [binOp, Op.intBits, bitop]
      rw [this]; exact Done.same h (.i _ _) ⟨rfl, hk⟩
    case or =>
      obtain ⟨rfl, hk⟩ := hk
      have : (binOp .or t (.int k a) (.int k b)).run P C.w = .ok (.int k (bitop .or k a b)) C.w := by simp [binOp, Op.intBits, bitop]
      rw [this]; exact Done.same h (.i _ _) ⟨rfl, hk⟩
    case xor =>
      obtain ⟨rfl, hk⟩ := hk
      have : (binOp .xor t (.int k a) (.int k b)).run P C.w = .ok (.int k (bitop .xor k a b)) C.w := by simp [binOp, Op.intBits, bitop]
      rw [this]; exact Done.same h (.i _ _) ⟨rfl, hk⟩
    case andNot =>
      obtain ⟨rfl, hk⟩ := hk
      have : (binOp .andNot t (.int k a) (.int k b)).run P C.w = .ok (.int k (bitop .andNot k a b)) C.w := by simp [binOp, Op.intBits, bitop]
      rw [this]; exact Done.same h (.i _ _) ⟨rfl, hk⟩
    case eql =>
      obtain ⟨rfl, hk⟩ := hk
      have : (binOp .eql t (.int k a) (.int k b)).run P C.w = .ok (.bool (decide (a = b))) C.w := by
        simp only [binOp, Op.intCmp, ne_eq, not_true_eq_false, if_false, Sem.run_pure, beq_dec]
      rw [this]; exact Done.same h (.b _) ⟨rfl, hk⟩
    case neq =>
      obtain ⟨rfl, hk⟩ := hk
      have : (binOp .neq t (.int k a) (.int k b)).run P C.w = .ok (.bool (!decide (a = b))) C.w := by
        simp only [binOp, Op.intCmp, ne_eq, not_true_eq_false, if_false, Sem.run_pure, bne, beq_dec]
      rw [this]; exact Done.same h (.b _) ⟨rfl, hk⟩
    case lss =>
      obtain ⟨rfl, hk⟩ := hk
      have : (binOp .lss t (.int k a) (.int k b)).run P C.w = .ok (.bool (decide (a < b))) C.w := by simp [binOp, Op.intCmp]
      rw [this]; exact Done.same h (.b _) ⟨rfl, hk⟩
    case leq =>
      obtain ⟨rfl, hk⟩ := hk
      have : (binOp .leq t (.int k a) (.int k b)).run P C.w = .ok (.bool (decide (a ≤ b))) C.w := by simp [binOp, Op.intCmp]
      rw [this]; exact Done.same h (.b _) ⟨rfl, hk⟩
    case gtr =>
      obtain ⟨rfl, hk⟩ := hk
      have : (binOp .gtr t (.int k a) (.int k b)).run P C.w = .ok (.bool (decide (b < a))) C.w := by simp [binOp, Op.intCmp]
      rw [this]; exact Done.same h (.b _) ⟨rfl, hk⟩
    case geq =>
      obtain ⟨rfl, hk⟩ := hk
      have : (binOp .geq t (.int k a) (.int k b)).run P C.w = .ok (.bool (decide (b ≤ a))) C.w := by simp [binOp, Op.intCmp]
      rw [this]; exact Done.same h (.b _) ⟨rfl, hk⟩
  · exact hk.elim

theorem intsOf_sound : ∀ {xs : List V} {a : List Int} {cs : List Value}, intsOf xs = some a → cs.length = xs.length →
    (∀ (j : Nat) (x : V) (c : Value), xs[j]? = some x → cs[j]? = some c → VR C x c) → a.length = cs.length ∧ ∀ (j : Nat) (c : Value), cs[j]? = some c → ∃ k n, c = .int k n ∧ a[j]? = some n
  | [], a, cs, h, hl, hv => by
    simp [intsOf] at h; subst h
    have : cs = [] := List.eq_nil_of_length_eq_zero hl
    subst this; simp
  | x :: xs, a, [], h, hl, hv => by simp at hl
  | x :: xs, a, c :: cs, h, hl, hv => by
    cases x <;> simp only [intsOf, reduceCtorEq] at h
    case i k n =>
      simp only [Option.map_eq_some_iff] at h
      obtain ⟨b, hb, rfl⟩ := h
      obtain ⟨p, q⟩ := intsOf_sound hb (by simpa using hl) (fun j y d hy hd => hv (j + 1) y d (by simpa using hy) (by simpa using hd))
      refine ⟨by simp [p], fun j d hd => ?_⟩
      cases j with
      | zero => simp at hd; subst hd; exact ⟨k, n, int_inv (hv 0 _ _ rfl rfl), rfl⟩
      | succ j => exact q j d (by simpa using hd)

theorem not_sound (h : R C σ) {x : V} {c : Value} (hx : VR C x c) {K : V → List O → Prop} (hk : match x with | .b t => K (.b (!t)) σ | _ => False) :
    Done C K ((Op.unary .not c).run P C.w) := by
  cases x <;> simp only at hk
  case b t =>
    obtain rfl := bool_inv hx
    simp only [Op.unary, Sem.run_pure]
    exact Done.same h (.b _) hk
  all_goals exact hk.elim

theorem neg_sound (h : R C σ) {x : V} {c : Value} (hx : VR C x c) {K : V → List O → Prop} (hk : match x with | .i k n => K (.i k (k.wrap (0 - n))) σ | _ => False) :
    Done C K ((Op.unary .neg c).run P C.w) := by
  cases x <;> simp only at hk
  case i k n =>
    obtain rfl := int_inv hx
    simp only [Op.unary, Op.intArith, Sem.run_pure]
    exact Done.same h (.i _ _) hk
  all_goals exact hk.elim

theorem conv_sound (h : R C σ) {k : IntKind} {x : V} {c : Value} (hx : VR C x c) {K : V → List O → Prop} (hk : match x with | .i _ n => K (.i k (k.wrap n)) σ | _ => False)
    {src dst : TypeId} (hs : (P.underlying src).isSome = true) (hd : P.underlying dst = some (.int k)) : Done C K ((convert src dst c).run P C.w) := by
  cases x <;> simp only at hk
  case i k' n =>
    obtain rfl := int_inv hx
    obtain ⟨d, hs⟩ := Option.isSome_iff_exists.1 hs
    have : (convert src dst (.int k' n)).run P C.w = .ok (.int k (k.wrap n)) C.w := by
      simp only [convert, Sem.run_bind, run_underlying hs, run_underlying hd, Result.andThen_ok, Conv.intToInt, Sem.run_pure]
    rw [this]
    exact Done.same h (.i _ _) hk
  all_goals exact hk.elim

/-! ### Addresses -/
theorem nilc_sound (h : R C σ) {x : V} {c : Value} (hx : VR C x c) {K : V → Prop} (hk : nilcK x σ K) (ρ : Operand → Value) (y : Operand) (hy : ρ y = c) (o : Oper) (ho : o.op = .nilCheck y) :
    ∃ v, (execOp ρ o).run P C.w = .ok (.value c) C.w ∧ VR C v c ∧ K v := by
  cases x <;> simp only [nilcK] at hk
  case p id ver off =>
    obtain ⟨blk, bs, rfl, _⟩ := live_ptr (live_ver h hk.1) hx
    exact ⟨_, by simp [execOp, ho, hy], hx, hk.2⟩
  case sp cs off =>
    cases hx with
    | sp _ _ blk base cs' hz hl h1 hc hv => exact ⟨_, by simp [execOp, ho, hy], .sp _ _ blk base cs' hz hl h1 hc hv, hk⟩
  case f fn a b =>
    cases fn <;> simp only at hk
    case func f =>
      have hx' := hx
      cases hx with
      | f _ _ _ cf cc hl1 hl2 h1 h2 => exact ⟨_, by simp [execOp, ho, hy], hx', hk⟩
    all_goals exact hk.elim
  all_goals exact hk.elim

theorem szP_info {t : TypeId} {n : Nat} (h : szP P t = some n) : ∃ i, P.info? t = some i ∧ i.size = n := by
  unfold szP at h
  cases hi : P.info? t with
  | none => rw [hi] at h; cases h
  | some i => rw [hi] at h; exact ⟨i, rfl, by simpa using h⟩

theorem fad_sound (h : R C σ) {x : V} {c : Value} (hx : VR C x c) {s : TypeId} {fs : Array Field} {fi : Nat} {f : Field} (hs : P.underlying s = some (.struct fs)) (hf : fs[fi]? = some f)
    {sz : Nat} (hsz : szP P f.type = some sz) (h0 : sz ≠ 0) {K : V → Prop} (hk : fadK f.offset x σ K) :
    Done C (fun v σ' => σ' = σ ∧ K v) ((Instr.fieldAt s c fi).run P C.w) := by
  have key : ∀ a : Addr, (Instr.fieldAt s (.pointer (some a)) fi).run P C.w = .ok (.pointer (some (a.add f.offset))) C.w := by
    intro a
    simp [Instr.fieldAt, run_underlying hs, hf, Instr.sureAddr, fieldPlace, run_sizeOf hsz, h0]
  cases x <;> simp only [fadK] at hk
  case p id ver off =>
    obtain ⟨blk, bs, rfl, hρ⟩ := live_ptr (live_ver h hk.1) hx
    rw [key, add_at, Nat.add_assoc]
    exact Done.same h (.p _ _ _ _ _ hρ (live_ver h hk.1)) ⟨rfl, hk.2⟩
  case sp cells off =>
    cases hx with
    | sp _ _ blk base cs hz hl h1 hc hv =>
      rw [key, add_at, Nat.add_assoc]
      exact Done.same h (.sp _ _ _ _ cs hz hl h1 hc hv) ⟨rfl, hk⟩
  all_goals exact hk.elim

theorem agg_inv {cs : List V} {c : Value} (h : VR C (.agg cs) c) : ∃ ds : Array Value, c = .agg ds ∧ CR C cs ds.toList := by
  cases h with
  | agg _ ds hl h1 hv => exact ⟨ds, rfl, by simpa using hl, fun e he => h1 e (by simpa using he), fun j x e hx he => hv j x e hx (by simpa using he)⟩

theorem part_one (h : R C σ) {t : TypeId} {cs : List V} {ds : Array Value} (hc : CR C cs ds.toList) {off : Nat} (hoff : off < cs.length) (ha : aggP P t = some false) {K : V → Prop} (hk : K (cs.getD off .u)) :
    Done C (fun v σ' => σ' = σ ∧ K v) ((part t ds off).run P C.w) := by
  have hlt : off < ds.size := by have := hc.1; simp at this; omega
  have : (part t ds off).run P C.w = .ok ds[off] C.w := by
    simp [part, run_isAgg_false ha, Array.getElem?_eq_getElem hlt]
  rw [this]
  exact Done.same h (hc.2.2 off _ _ (get_ok hoff .u) (by simp [Array.getElem?_eq_getElem hlt])) ⟨rfl, hk⟩

theorem part_agg (h : R C σ) {t : TypeId} {cs : List V} {ds : Array Value} (hc : CR C cs ds.toList) {off n : Nat} (hoff : off + n ≤ cs.length) (ha : aggP P t = some true) (hn : szP P t = some n)
    {K : V → Prop} (hk : K (.agg ((cs.drop off).take n))) : Done C (fun v σ' => σ' = σ ∧ K v) ((part t ds off).run P C.w) := by
  have hlen : ds.size = cs.length := by have := hc.1; simpa using this
  have : (part t ds off).run P C.w = .ok (.agg (ds.extract off (off + n))) C.w := by
    simp [part, run_isAgg_true ha, run_sizeOf hn]
  rw [this]
  refine Done.same h (.agg _ _ (by simp; omega) (fun c hc' => ?_) (fun j x c hx hc' => ?_)) ⟨rfl, hk⟩
  · obtain ⟨j, hj⟩ := Array.mem_iff_getElem?.1 hc'
    rw [Array.getElem?_extract] at hj
    split at hj
    · exact hc.2.1 c (by simpa using Array.mem_of_getElem? hj)
    · cases hj
  · rw [Array.getElem?_extract] at hc'
    split at hc'
    · rw [List.getElem?_take] at hx
      split at hx
      · rw [List.getElem?_drop] at hx
        exact hc.2.2 (off + j) x c hx (by simpa using hc')
      · cases hx
    · cases hc'

theorem fld1_sound (h : R C σ) {x : V} {c : Value} (hx : VR C x c) {s : TypeId} {fs : Array Field} {fi : Nat} {f : Field} (hs : P.underlying s = some (.struct fs)) (hf : fs[fi]? = some f)
    (ha : aggP P f.type = some false) {K : V → Prop} (hk : match x with | .agg cs => f.offset < cs.length ∧ K (cs.getD f.offset .u) | _ => False) :
    Done C (fun v σ' => σ' = σ ∧ K v) ((Instr.field s c fi).run P C.w) := by
  cases x <;> simp only at hk
  case agg cs =>
    obtain ⟨ds, rfl, hc⟩ := agg_inv hx
    have : (Instr.field s (.agg ds) fi).run P C.w = (part f.type ds f.offset).run P C.w := by
      simp [Instr.field, run_underlying hs, hf, asAgg]
    rw [this]
    exact part_one h hc hk.1 ha hk.2
  all_goals exact hk.elim

theorem fldA_sound (h : R C σ) {x : V} {c : Value} (hx : VR C x c) {s : TypeId} {fs : Array Field} {fi : Nat} {f : Field} (hs : P.underlying s = some (.struct fs)) (hf : fs[fi]? = some f)
    {n : Nat} (ha : aggP P f.type = some true) (hn : szP P f.type = some n) {K : V → Prop} (hk : match x with | .agg cs => f.offset + n ≤ cs.length ∧ K (.agg ((cs.drop f.offset).take n)) | _ => False) :
    Done C (fun v σ' => σ' = σ ∧ K v) ((Instr.field s c fi).run P C.w) := by
  cases x <;> simp only at hk
  case agg cs =>
    obtain ⟨ds, rfl, hc⟩ := agg_inv hx
    have : (Instr.field s (.agg ds) fi).run P C.w = (part f.type ds f.offset).run P C.w := by
      simp [Instr.field, run_underlying hs, hf, asAgg]
    rw [this]
    exact part_agg h hc hk.1 ha hn hk.2
  all_goals exact hk.elim

theorem ixa_sound (h : R C σ) {x i : V} {c ci : Value} (hx : VR C x c) (hi : VR C i ci) {t e : TypeId} {n es : Nat} (ht : P.underlying t = some (.array n e)) (hs : szP P e = some es)
    {K : V → Prop} (hk : ixaK n es x i σ K) : Done C (fun v σ' => σ' = σ ∧ K v) ((Instr.indexAt t c ci).run P C.w) := by
  have key : ∀ (a : Addr) (k : IntKind) (j : Int), 0 ≤ j → j < n → (Instr.indexAt t (.pointer (some a)) (.int k j)).run P C.w = .ok (.pointer (some (a.add (j.toNat * es)))) C.w := by
    intro a k j h0 h1
    simp [Instr.indexAt, asIntOf, run_underlying ht, Instr.sureAddr, h0, h1, run_sizeOf hs]
  cases x <;> cases i <;> simp only [ixaK] at hk
  case p.i id ver off k j =>
    obtain ⟨hl, h0, h1, hk⟩ := hk
    obtain ⟨blk, bs, rfl, hρ⟩ := live_ptr (live_ver h hl) hx
    obtain rfl := int_inv hi
    rw [key _ _ _ h0 h1, add_at, Nat.add_assoc]
    exact Done.same h (.p _ _ _ _ _ hρ (live_ver h hl)) ⟨rfl, hk⟩
  case sp.i cells off k j =>
    obtain ⟨h0, h1, hk⟩ := hk
    obtain rfl := int_inv hi
    cases hx with
    | sp _ _ blk base cs hz hl h1' hc hv =>
      rw [key _ _ _ h0 h1, add_at, Nat.add_assoc]
      exact Done.same h (.sp _ _ _ _ cs hz hl h1' hc hv) ⟨rfl, hk⟩
  all_goals exact hk.elim

theorem slice_live {id ver off len es : Nat} {c : Value} (hver : C.vs[id]? = some ver) (hv : VR C (.s id ver off len es) c) :
    ∃ blk bs at_ cap cc t, c = .slice (some ⟨blk, at_, none⟩) len cap ∧ C.ρ[id]? = some (blk, bs) ∧ len ≤ cap ∧ C.w.heap[blk]? = some (.cells cc t (0, 0)) ∧ bs + off + cap * es ≤ cc.size ∧ (cap ≠ 0 → at_ = bs + off) := by
  cases hv with
  | s _ _ _ _ _ blk bs at_ cap cc t hρ hv hlc hb hs ha => exact ⟨blk, bs, at_, cap, cc, t, rfl, hρ, hlc, hb, hs, ha⟩
  | s0 _ _ _ _ _ v _ h1 hv hl =>
    rw [hver] at hv
    have := Option.some.inj hv
    omega

theorem ixv_sound (h : R C σ) {x i : V} {c ci : Value} (hx : VR C x c) (hi : VR C i ci) {t e : TypeId} {n es : Nat} (ht : P.underlying t = some (.array n e)) (hs : szP P e = some es)
    {one : Option Nat} (ho : (one = none ∧ es = 1 ∧ aggP P e = some false) ∨ (one = some es ∧ aggP P e = some true))
    {K : V → Prop} (hk : ixvK n one x i K) : Done C (fun v σ' => σ' = σ ∧ K v) ((Instr.index t c ci).run P C.w) := by
  cases x <;> cases i <;> simp only [ixvK] at hk
  case agg.i cs k j =>
    obtain ⟨h0, h1, hk⟩ := hk
    obtain ⟨ds, rfl, hc⟩ := agg_inv hx
    obtain rfl := int_inv hi
    have : (Instr.index t (.agg ds) (.int k j)).run P C.w = (part e ds (j.toNat * es)).run P C.w := by
      simp [Instr.index, asIntOf, run_underlying ht, h0, h1, run_sizeOf hs]
    rw [this]
    have hj : j.toNat < n := by omega
    rcases ho with ⟨rfl, rfl, ha⟩ | ⟨rfl, ha⟩
    · simp only at hk
      rw [Nat.mul_one]
      exact part_one h hc (by omega) ha hk.2
    · simp only at hk
      have : j.toNat * es + es ≤ n * es := by
        have := Nat.mul_le_mul_right es (show j.toNat + 1 ≤ n by omega)
        rwa [Nat.add_mul, Nat.one_mul] at this
      exact part_agg h hc (by omega) ha hs hk.2

theorem ixs_sound (h : R C σ) {x i : V} {c ci : Value} (hx : VR C x c) (hi : VR C i ci) {t e : TypeId} {es : Nat} (ht : P.underlying t = some (.slice e)) (hs : szP P e = some es)
    {K : V → Prop} (hk : ixsK es x i σ K) : Done C (fun v σ' => σ' = σ ∧ K v) ((Instr.indexAt t c ci).run P C.w) := by
  have key : ∀ (a : Addr) (n cap : Nat) (k : IntKind) (j : Int), 0 ≤ j → j < n → (Instr.indexAt t (.slice (some a) n cap) (.int k j)).run P C.w = .ok (.pointer (some (a.add (j.toNat * es)))) C.w := by
    intro a n cap k j h0 h1
    simp [Instr.indexAt, asIntOf, run_underlying ht, h0, h1, run_sizeOf hs]
  cases x <;> cases i <;> simp only [ixsK] at hk
  case s.i id ver off len es' k j =>
    obtain ⟨rfl, hl, h0, h1, hk⟩ := hk
    obtain ⟨blk, bs, at_, cap, cc, t', rfl, hρ, hlc, hb, hsz, ha⟩ := slice_live (live_ver h hl) hx
    obtain rfl := int_inv hi
    rw [key _ _ _ _ _ h0 h1, add_at, ha (by omega), Nat.add_assoc]
    exact Done.same h (.p _ _ _ _ _ hρ (live_ver h hl)) ⟨rfl, hk⟩
  case ss.i cells len full k j =>
    obtain ⟨h0, h1, hk⟩ := hk
    obtain rfl := int_inv hi
    cases hx with
    | ss _ _ _ blk base cap cs hz hl h1' hc hv hlc hf =>
      rw [key _ _ _ _ _ h0 h1, add_at]
      exact Done.same h (.sp _ _ _ _ cs hz hl h1' hc hv) ⟨rfl, hk⟩
    | ss0 => omega
    | ssn => omega
  all_goals exact hk.elim

theorem ext_sound (h : R C σ) {x : V} {c : Value} (hx : VR C x c) {i : Nat} {K : V → Prop} (hk : extK i x K) : Done C (fun v σ' => σ' = σ ∧ K v) ((Instr.extract c i).run P C.w) := by
  cases x <;> simp only [extK] at hk
  case tup vs =>
    cases hx with
    | tup _ cs hl hv =>
      have hlt : i < cs.size := by omega
      have : (Instr.extract (.tuple cs) i).run P C.w = .ok cs[i] C.w := by simp [Instr.extract, Array.getElem?_eq_getElem hlt]
      rw [this]
      exact Done.same h (hv i _ _ (get_ok hk.1 .u) (Array.getElem?_eq_getElem hlt)) ⟨rfl, hk.2⟩
  all_goals exact hk.elim

end
end Go.Ab
