/- The abstract layer, part 10: an operation of the loaded code is read as one of the intermediate form, and does what that does. -/
import Derived.Test.YtchmfamkpfaieaaAb9
set_option linter.unusedVariables false
set_option linter.unusedSimpArgs false
namespace Go.Ab
open Go

def gd (b : Bool) (x : IOp) : Option IOp := if b then some x else none

def trParts' (P : Program) (fs : Array Field) (i : Nat) : Option (Nat × Nat) :=
  match fs[i]? with
  | some f => match szP P f.type with
    | some s => some (f.offset, s)
    | none => none
  | none => none

def trBuiltin (P : Program) (b : Builtin) (args : List Operand) (ts : Array TypeId) : Option IOp :=
  match b, args with
  | .len, [x] => match ts[0]?, trX x with
    | some t, some y => match P.underlying t with
      | some (.slice _) => gd (ts.size == 1) (.len y)
      | some (.map _ _) => gd (ts.size == 1) (.lenm y)
      | some .string => gd (ts.size == 1) (.lens y)
      | some (.array n _) => gd (ts.size == 1) (.mov (.c (.i .i64 n)))
      | _ => none
    | _, _ => none
  | .append, [x, y] => match ts[0]?, ts[1]?, trX x, trX y with
    | some t, some t', some a, some b => match P.underlying t with
      | some (.slice e) => match P.info? e, zcP P e with
        | some i, some zs => gd (t == t' && ts.size == 2 && zs.length == i.size && decide (0 < i.bytes)) (.app i.size i.bytes a b)
        | _, _ => none
      | _ => none
    | _, _, _, _ => none
  | .clear, [x] => match ts[0]?, trX x with
    | some t, some y => match P.underlying t with
      | some (.slice e) => match szP P e, zcP P e with
        | some s, some zs => gd (ts.size == 1 && zs.length == s) (.clr s zs y)
        | _, _ => none
      | _ => none
    | _, _ => none
  | .copy, [x, y] => match ts[0]?, trX x, trX y with
    | some t, some a, some b => match P.underlying t with
      | some (.slice e) => match szP P e with
        | some s => gd (ts.size == 2) (.cpy s a b)
        | _ => none
      | _ => none
    | _, _, _ => none
  | .delete, [x, y] => match ts[0]?, trX x, trX y with
    | some t, some a, some b => match P.underlying t with
      | some (.map k _) => match keyP P k with
        | some (q, n) => gd (ts.size == 2) (.mdel q n a b)
        | _ => none
      | _ => none
    | _, _, _ => none
  | .max, xs => (trXs xs).map .mx
  | .min, xs => (trXs xs).map .mn
  | _, _ => none

def trOp (P : Program) (frz : Bool) (o : Oper) : Option IOp :=
  match o.op with
  | .move x => (trX x).map .mov
  | .assign x => (trX x).map .mov
  | .pick c a b => match trX c, trX a, trX b with
    | some c, some a, some b => some (.pick c a b)
    | _, _, _ => none
  | .alloc e => (zcP P e).map .alloc
  | .box _ x => (trX x).map .box
  | .build t ps => match P.underlying t, zcP P t with
    | some (.struct fs), some zs => match trParts P (trParts' P fs) ps.toList with
      | some qs => gd (fs.toList.all (fun f => (szP P f.type).isSome)) (.build zs qs)
      | none => none
    | some (.array _ e), some zs => match szP P e with
      | some s => (trParts P (fun i => some (i * s, s)) ps.toList).map (.build zs)
      | none => none
    | _, _ => none
  | .buildSlice t n ps => match P.underlying t with
    | some (.slice e) => match szP P e, zcP P e with
      | some s, some zs => match trParts P (fun i => some (i * s, s)) ps.toList with
        | some qs => gd (zs.length == s && decide (n * s ≤ 16777216)) (.bsl frz s n (rep n zs) qs)
        | none => none
      | _, _ => none
    | _ => none
  | .load t a => match aggP P t, szP P t, trX a with
    | some false, _, some x => some (.load1 x)
    | some true, some n, some x => some (.loadA n x)
    | _, _, _ => none
  | .store t a v => match aggP P t, szP P t, trX a, trX v with
    | some false, some n, some x, some y => gd (n == 1) (.store1 x y)
    | some true, some n, some x, some y => some (.storeA n x y)
    | _, _, _, _ => none
  | .nilCheck x => (trX x).map .nilc
  | .binOp op t x y _ => match trX x, trX y with
    | some x, some y => match P.underlying t with
      | some (.int _) => some (.bin op x y)
      | some .bool => match op with
        | .eql => some (.eqb false x y)
        | .neq => some (.eqb true x y)
        | _ => none
      | _ => match eqP P t, op with
        | some (q, n), .eql => some (.eqv q n false x y)
        | some (q, n), .neq => some (.eqv q n true x y)
        | _, _ => none
    | _, _ => none
  | .unOp op _ x => match op with
    | .not => (trX x).map .not
    | .neg => (trX x).map .neg
    | _ => none
  | .convert s d x => match P.underlying s, P.underlying d, trX x with
    | some _, some (.int k), some y => some (.conv k y)
    | _, _, _ => none
  | .makeFunc fn a b => match trXs a.toList, trXs b.toList with
    | some xs, some ys => some (.mkf fn xs ys)
    | _, _ => none
  | .makeMap _ none => some .mkmap
  | .makeSlice t l c => match P.underlying t, trX l, trX c with
    | some (.slice e), some x, some y => match P.info? e, zcP P e with
      | some i, some zs => gd (zs.length == i.size) (.mksl i.size i.bytes zs x y)
      | _, _ => none
    | _, _, _ => none
  | .slice t x lo hi mx => match trX x, trO lo, trO hi, trO mx with
    | some y, some l, some h, some m => match P.underlying t with
      | some (.slice e) => (szP P e).map fun s => .slc s y l h m
      | some (.array n e) => match l, h, m with
        | none, none, none => (szP P e).map fun s => .sla n s y
        | _, _, _ => none
      | _ => none
    | _, _, _, _ => none
  | .fieldAddr s x f => match P.underlying s, trX x with
    | some (.struct fs), some y => match fs[f]? with
      | some fl => match szP P fl.type with
        | some n => gd (n != 0) (.fad fl.offset y)
        | none => none
      | none => none
    | _, _ => none
  | .field s x f => match P.underlying s, trX x with
    | some (.struct fs), some y => match fs[f]? with
      | some fl => match aggP P fl.type, szP P fl.type with
        | some false, _ => some (.fld1 fl.offset y)
        | some true, some n => some (.fldA fl.offset n y)
        | _, _ => none
      | none => none
    | _, _ => none
  | .indexAddr t x i => match trX x, trX i with
    | some y, some j => match P.underlying t with
      | some (.array n e) => (szP P e).map fun s => .ixa n s y j
      | some (.slice e) => (szP P e).map fun s => .ixs s y j
      | _ => none
    | _, _ => none
  | .index t x i => match trX x, trX i, P.underlying t with
    | some y, some j, some (.array n e) => match aggP P e, szP P e with
      | some false, some s => gd (s == 1) (.ixv n none y j)
      | some true, some s => some (.ixv n (some s) y j)
      | _, _ => none
    | _, _, _ => none
  | .lookup t x k ok => match P.underlying t, trX x, trX k with
    | some (.map key e), some y, some z => match keyP P key, zcP P e, aggP P e with
      | some (q, n), some [zv], some false => match P.info? e with
        | some i => match i.zero with
          | some v => gd v.oneCell' (.lkp q n zv ok y z)
          | none => none
        | none => none
      | _, _, _ => none
    | _, _, _ => none
  | .mapUpdate t m k v => match P.underlying t, trX m, trX k, trX v with
    | some (.map key e), some x, some y, some z => match keyP P key with
      | some (q, n) => some (.mset q n x y z)
      | none => none
    | _, _, _, _ => none
  | .range t x => match P.underlying t, trX x with
    | some (.map _ _), some y => some (.rng y)
    | _, _ => none
  | .next x false => (trX x).map .nxt
  | .entry x => (trX x).map .ent
  | .extract x i => (trX x).map (.ext i)
  | .call c => match c.callee with
    | .value (.func f) => (trXs c.args.toList).map (.call f)
    | .value x => match trX x, trXs c.args.toList with
      | some g, some xs => some (.callv g xs)
      | _, _ => none
    | .builtin b => trBuiltin P b c.args.toList c.argTypes
    | _ => none
  | _ => none

def IOp.isCall : IOp → Bool
  | .call _ _ => true
  | .callv _ _ => true
  | _ => false

section
variable {P : Program} {C : Cx} {σ : List O}

/-- What an operation leaves for its activation. -/
def NextOK (C : Cx) (K : V → List O → Prop) (r : Result Next) : Prop :=
  ∃ cv C' v σ', (r = .ok (.value cv) C'.w ∨ (r = .ok .skip C'.w ∧ cv = undef)) ∧ R C' σ' ∧ Ext C C' ∧ VR C' v cv ∧ K v σ'

theorem NextOK.of_done {K : V → List O → Prop} {s : Sem Value} (h : Done C K (s.run P C.w)) : NextOK C K ((do pure (.value (← s)) : Sem Next).run P C.w) := by
  obtain ⟨cv, C', v, σ', e, r, x, vr, k⟩ := h
  exact ⟨cv, C', v, σ', .inl (by simp [e]), r, x, vr, k⟩

theorem NextOK.of_doneU {K : V → List O → Prop} {s : Sem Unit} (h : DoneU C K (s.run P C.w)) : NextOK C K ((do s; pure .skip : Sem Next).run P C.w) := by
  obtain ⟨C', σ', e, r, x, k⟩ := h
  exact ⟨undef, C', .u, σ', .inr ⟨by simp [e], rfl⟩, r, x, .u _, k⟩

theorem Done.mono {K K' : V → List O → Prop} {r : Result Value} (h : Done C K r) (hk : ∀ v σ', K v σ' → K' v σ') : Done C K' r := by
  obtain ⟨cv, C', v, σ', e, a, b, c, d⟩ := h
  exact ⟨cv, C', v, σ', e, a, b, c, hk _ _ d⟩

theorem Done.eqσ {K : V → List O → Prop} {r : Result Value} (h : Done C (fun v σ' => σ' = σ ∧ K v σ) r) : Done C K r :=
  h.mono fun v σ' ⟨e, k⟩ => by rw [e]; exact k

variable {env : Nat → V} {a : Act}

theorem trXs_sound (he : ∀ t, VR C (env t) (a.tmps.getD t undef)) : ∀ {xs : List Operand} {ys : List Od}, trXs xs = some ys → VRl C (ys.map (Od.ev env)) (xs.map a.eval)
  | [], ys, h => by simp [trXs] at h; subst h; exact ⟨rfl, by simp⟩
  | x :: xs, ys, h => by
    simp only [trXs] at h
    split at h
    · rename_i y zs hy hz
      cases h
      have ih := trXs_sound he hz
      refine ⟨by simpa using ih.1, fun j v c hv hc => ?_⟩
      cases j with
      | zero => simp at hv hc; subst hv; subst hc; exact trX_sound hy he
      | succ j => exact ih.2 j v c (by simpa using hv) (by simpa using hc)
    · cases h

theorem trParts_sound (he : ∀ t, VR C (env t) (a.tmps.getD t undef)) {place : Nat → Option (Nat × Nat)} : ∀ {ps : List (Nat × Operand)} {qs : List (Nat × Nat × Od)}, trParts P place ps = some qs →
    (qs.map fun p => (p.1, p.2.1, p.2.2.ev env)).length = (ps.map fun p => (p.1, a.eval p.2)).length ∧
    ∀ (j o s : Nat) (x : V) (i : Nat) (c : Value), (qs.map fun p => (p.1, p.2.1, p.2.2.ev env))[j]? = some (o, s, x) → (ps.map fun p => (p.1, a.eval p.2))[j]? = some (i, c) → place i = some (o, s) ∧ VR C x c
  | [], qs, h => by simp [trParts] at h; subst h; simp
  | (i, x) :: ps, qs, h => by
    simp only [trParts] at h
    split at h
    · rename_i o s y ys hp hx hr
      cases h
      obtain ⟨l, r⟩ := trParts_sound he hr
      refine ⟨by simpa using l, fun j o' s' x' i' c' hq hc => ?_⟩
      cases j with
      | zero =>
        simp at hq hc
        obtain ⟨rfl, rfl, rfl⟩ := hq
        obtain ⟨rfl, rfl⟩ := hc
        exact ⟨hp, trX_sound hx he⟩
      | succ j => exact r j o' s' x' i' c' (by simpa using hq) (by simpa using hc)
    · cases h

theorem trO_sound (he : ∀ t, VR C (env t) (a.tmps.getD t undef)) {x : Option Operand} {y : Option Od} (h : trO x = some y) :
    (∀ v c, y.map (Od.ev env) = some v → x.map a.eval = some c → VR C v c) ∧ (y.map (Od.ev env)).isSome = (x.map a.eval).isSome := by
  cases x with
  | none => simp [trO] at h; subst h; simp
  | some x =>
    simp only [trO, Option.map_eq_some_iff] at h
    obtain ⟨z, hz, rfl⟩ := h
    refine ⟨fun v c hv hc => ?_, rfl⟩
    simp at hv hc; subst hv; subst hc
    exact trX_sound hz he

theorem gd_some {b : Bool} {x y : IOp} (h : gd b x = some y) : b = true ∧ x = y := by
  unfold gd at h
  split at h
  · rename_i hb; exact ⟨hb, Option.some.inj h⟩
  · cases h

end
end Go.Ab
