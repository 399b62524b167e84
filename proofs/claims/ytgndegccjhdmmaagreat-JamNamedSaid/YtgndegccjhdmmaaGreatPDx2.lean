import Derived.Test.YtgndegccjhdmmaaGreatPDx1
import Derived.Laws.StructEq
import Derived.DeepKeys3
/- Part 2 of what the theorem in TC rests on: an abstract layer over the calculus, contracts of the functions of the program, and plain facts. -/
set_option linter.unusedVariables false
set_option linter.unusedSimpArgs false
set_option linter.constructorNameAsVariable false
set_option maxHeartbeats 4000000
set_option maxRecDepth 100000
section
section
namespace Go.Ab
open Go
section
variable {P : Program} {C : Cx} {σ : List O}
theorem map_inv_live (h : R C σ) {id : Nat} {es : List (Nat × V × V)} {clock : Nat} {c : Value} (ho : σ[id]? = some (.map es clock)) (hv : VR C (.m id) c) :
  ∃ blk bs ces, c = .map (some blk) ∧ C.ρ[id]? = some (blk, bs) ∧ C.w.heap[blk]? = some (.map ces clock) ∧ ces.size = es.length ∧
   ∀ (j b : Nat) (k v : V) (e : MapEntry), es[j]? = some (b, k, v) → ces[j]? = some e → e.born = b ∧ VR C k e.key ∧ VR C v e.val := by
 have hver := h.ver id _ ho
 cases hv with
 | m _ blk bs hρ hv =>
  cases h.obj id _ blk bs ho hρ with
  | map _ _ ces hb hl hv => exact ⟨blk, bs, ces, rfl, hρ, hb, hl, hv⟩
 | m0 _ v _ h1 hv hl =>
  rw [hver] at hv
  have := Option.some.inj hv
  simp only [O.ver] at this
  omega
theorem len_sound (h : R C σ) {x : V} {c : Value} (hx : VR C x c) {t ty e : TypeId} (he : P.underlying t = some (.slice e)) {K : V → Prop} (hk : lenK x σ K) :
  Done C (fun v σ' => σ' = σ ∧ K v) ((Builtin.len_ #[t] ty #[c]).run P C.w) := by
 have key : ∀ a n cap, (Builtin.len_ #[t] ty #[.slice a n cap]).run P C.w = .ok (.int .i64 n) C.w := fun a n cap => by simp [Builtin.len_, run_underlying he, goInt]
 cases x <;> simp only [lenK] at hk
 case s id ver off len es =>
  obtain ⟨blk, bs, at_, cap, cc, t', rfl, hρ, hlc, hb, hsz, ha⟩ := slice_live (live_ver h hk.1) hx
  rw [key]; exact Done.same h (.i _ _) ⟨rfl, hk.2⟩
 case ss cells len full =>
  cases hx with
  | ss0 a cap => rw [key]; exact Done.same h (.i _ _) ⟨rfl, hk⟩
  | ssn a => rw [key]; exact Done.same h (.i _ _) ⟨rfl, hk⟩
  | ss => rw [key]; exact Done.same h (.i _ _) ⟨rfl, hk⟩
 all_goals exact hk.elim
theorem lenm_sound (h : R C σ) {x : V} {c : Value} (hx : VR C x c) {t ty k e : TypeId} (he : P.underlying t = some (.map k e)) {K : V → Prop} (hk : lenmK x σ K) :
  Done C (fun v σ' => σ' = σ ∧ K v) ((Builtin.len_ #[t] ty #[c]).run P C.w) := by
 cases x <;> simp only [lenmK] at hk
 case nm =>
  cases hx with
  | nm =>
   have : (Builtin.len_ #[t] ty #[.map none]).run P C.w = .ok (.int .i64 0) C.w := by simp [Builtin.len_, run_underlying he, goInt]
   rw [this]; exact Done.same h (.i _ _) ⟨rfl, hk⟩
 case m id =>
  split at hk
  ·rename_i es clock ho
   obtain ⟨blk, bs, ces, rfl, hρ, hb, hl, hv⟩ := map_inv_live h ho hx
   have : (Builtin.len_ #[t] ty #[.map (some blk)]).run P C.w = .ok (.int .i64 es.length) C.w := by simp [Builtin.len_, run_underlying he, goInt, getObj, Sem.run, hb, hl]
   rw [this]; exact Done.same h (.i _ _) ⟨rfl, hk⟩
  ·exact hk.elim
 case sm l =>
  cases hx with
  | sm _ blk es clock hz hb hl hk' hv =>
   have : (Builtin.len_ #[t] ty #[.map (some blk)]).run P C.w = .ok (.int .i64 l.length) C.w := by simp [Builtin.len_, run_underlying he, goInt, getObj, Sem.run, hb, hl]
   rw [this]; exact Done.same h (.i _ _) ⟨rfl, hk⟩
 all_goals exact hk.elim
theorem lens_sound (h : R C σ) {x : V} {c : Value} (hx : VR C x c) {t ty : TypeId} (he : P.underlying t = some .string) {K : V → Prop} (hk : lensK x K) :
  Done C (fun v σ' => σ' = σ ∧ K v) ((Builtin.len_ #[t] ty #[c]).run P C.w) := by
 cases x <;> simp only [lensK] at hk
 case str s =>
  cases hx with
  | str s =>
   have : (Builtin.len_ #[t] ty #[.string s]).run P C.w = .ok (.int .i64 s.size) C.w := by simp [Builtin.len_, run_underlying he, goInt]
   rw [this]; exact Done.same h (.i _ _) ⟨rfl, hk⟩
 all_goals exact hk.elim
theorem mksl_sound (h : R C σ) {l c : V} {cl cc : Value} (hl : VR C l cl) (hc : VR C c cc) {t e : TypeId} {i : TypeInfo} (ht : P.underlying t = some (.slice e)) (hi : P.info? e = some i)
  {zs : List V} (hz : zcP P e = some zs) (hzl : zs.length = i.size) {K : V → List O → Prop}
  (hk : match l, c with | .i _ n, .i _ n' => n = n' ∧ 0 ≤ n ∧ n ≤ 281474976710656 ∧ i.bytes * n ≤ 281474976710656 ∧ K (.s σ.length 0 0 n.toNat i.size) (σ ++ [.row 0 (rep n.toNat zs)]) | _, _ => False) :
  Done C K ((Instr.makeSlice t cl cc).run P C.w) := by
 cases l <;> cases c <;> simp only at hk
 case i.i k n k' n' =>
  obtain ⟨rfl, h0, hsm, hbig, hk⟩ := hk
  obtain rfl := int_inv hl
  obtain rfl := int_inv hc
  obtain ⟨z, hr, a, b, cz, -⟩ := zcP_sound hz C
  have hzs : z.cells.size = i.size := by rw [a, hzl]
  have hw : IntKind.i64.wrap n = n := by
   have e : n % 18446744073709551616 = n := by omega
   have e2 : ¬ (n ≥ 9223372036854775808) := by omega
   simp only [IntKind.wrap, IntKind.signed, IntKind.bits, show ((2 : Int) ^ 64) = 18446744073709551616 from rfl, show ((2 : Int) ^ (64 - 1)) = 9223372036854775808 from rfl, e]
   simp [e2]
  have hn : (n.toNat : Int) = n := Int.toNat_of_nonneg h0
  have hcr := zeros_cr (C := C) a b cz n.toNat
  rw [hzs] at hcr
  have hsz : szP P e = some i.size := by simp [szP, hi]
  have hrun : (Instr.makeSlice t (.int k n) (.int k' n)).run P C.w = .ok (.slice (some ⟨C.w.heap.size, 0, none⟩) n.toNat n.toNat) (C.w.alloc (.cells ((Array.range (n.toNat * i.size)).map (z.cells[· % i.size]!)).toList.toArray e)) := by
   have hti : ∀ w, (typeInfo e).run P w = .ok i w := fun w => by simp [typeInfo, hi]
   simp only [Instr.makeSlice, Sem.run_bind, run_underlying ht, Result.andThen_ok, asInt, asIntOf, Sem.run_pure, hti, hw, run_sizeOf hsz]
   rw [if_neg (by
    simp only [gt_iff_lt, Bool.or_eq_true, decide_eq_true_eq]
    have : ((i.bytes : Int) * n) ≤ 281474976710656 := hbig
    omega)]
   rw [Sem.run_bind, run_askRoom, Result.andThen_ok, Sem.run_bind, run_sizeOf hsz, Result.andThen_ok]
   by_cases hz0 : n.toNat * i.size = 0
   ·rw [if_pos hz0, hz0]
    simp only [Sem.run_pure, Result.andThen_ok, newRow, Sem.run_bind, run_newObj]
    have e0 : ∀ f : Nat → Value, (Array.map f (Array.range 0)) = #[] := fun f => by simp
    rw [e0, e0]
    rfl
   ·rw [if_neg hz0]
    simp only [Sem.run_bind, hr, Sem.run_pure, Result.andThen_ok, newRow, run_newObj, hzs, Array.toArray_toList]
    rfl
  rw [hrun]
  obtain ⟨r1, r2, r3, r4, r5⟩ := new_row h e hcr.1 hcr.2.1 hcr.2.2
  refine ⟨_, C.alloc _, _, _, rfl, r1, r2, ?_, hk⟩
  refine .s _ _ _ _ _ C.w.heap.size 0 0 n.toNat _ e r3 r4 (Nat.le_refl _) r5 ?_ (fun _ => rfl)
  have := hcr.1
  rw [rep_len, hzl] at this
  simp only [List.size_toArray, this]
  omega
 all_goals exact hk.elim
theorem slcB_sound {len cap : Nat} (hlc : len ≤ cap) {lo hi mx : Option V} {clo chi cmx : Option Value} (h1 : ∀ v c, lo = some v → clo = some c → VR C v c) (h1' : lo.isSome = clo.isSome)
  (h2 : ∀ v c, hi = some v → chi = some c → VR C v c) (h2' : hi.isSome = chi.isSome) (h3 : ∀ v c, mx = some v → cmx = some c → VR C v c) (h3' : mx.isSome = cmx.isSome)
  {K : Nat → Nat → Option Nat → Prop} (hk : slcB len lo hi mx K) :
  ∃ l hh m, (Instr.sliceBounds true len cap clo chi cmx).run P C.w = .ok (l, hh, m.getD cap) C.w ∧ l ≤ hh ∧ hh ≤ len ∧ (∀ q, m = some q → hh ≤ q ∧ q ≤ len) ∧ K l hh m := by
 have sb : ∀ (x : V) (c : Value) (k : IntKind) (i : Int) (y : Nat) (code : BoundsCode), x = .i k i → VR C x c → 0 ≤ i → i ≤ y → (Instr.sliceBound c y code).run P C.w = .ok i.toNat C.w := by
  intro x c k i y code hx hv h0 h1
  subst hx
  obtain rfl := int_inv hv
  simp [Instr.sliceBound, asIntOf, h0, h1]
 unfold slcB at hk
 cases mx with
 | none =>
  cases cmx with
  | some _ => simp at h3'
  | none =>
   simp only at hk
   cases hi with
   | none =>
    cases chi with
    | some _ => simp at h2'
    | none =>
     simp only at hk
     cases lo with
     | none =>
      cases clo with
      | some _ => simp at h1'
      | none => exact ⟨0, len, none, by simp [Instr.sliceBounds], by omega, by omega, by simp, hk⟩
     | some v =>
      cases clo with
      | none => simp at h1'
      | some c =>
       cases v <;> simp only at hk
       case i k l =>
        have e := sb _ c k l len .sliceB rfl (h1 _ _ rfl rfl) hk.1 hk.2.1
        exact ⟨l.toNat, len, none, by simp [Instr.sliceBounds, e], by omega, by omega, by simp, hk.2.2⟩
       all_goals exact hk.elim
   | some vh =>
    cases chi with
    | none => simp at h2'
    | some ch =>
     cases vh <;> simp only at hk
     case i kh hh =>
      cases lo with
      | none =>
       cases clo with
       | some _ => simp at h1'
       | none =>
        have e := sb _ ch kh hh cap .sliceAcap rfl (h2 _ _ rfl rfl) hk.1 (by omega)
        exact ⟨0, hh.toNat, none, by simp [Instr.sliceBounds, e], by omega, by omega, by simp, hk.2.2⟩
      | some v =>
       cases clo with
       | none => simp at h1'
       | some c =>
        cases v <;> simp only at hk
        case i k l =>
         have e := sb _ ch kh hh cap .sliceAcap rfl (h2 _ _ rfl rfl) (by omega) (by omega)
         have e2 := sb _ c k l hh.toNat .sliceB rfl (h1 _ _ rfl rfl) hk.1 (by omega)
         exact ⟨l.toNat, hh.toNat, none, by simp [Instr.sliceBounds, e, e2], by omega, by omega, by simp, hk.2.2.2⟩
        all_goals exact hk.elim
     all_goals exact hk.elim
 | some vm =>
  cases cmx with
  | none => simp at h3'
  | some cm =>
   cases vm <;> simp only at hk
   case i km m =>
    cases hi with
    | none => exact hk.elim
    | some vh =>
     cases chi with
     | none => simp at h2'
     | some ch =>
      cases vh <;> simp only at hk
      case i kh hh =>
       cases lo with
       | none =>
        cases clo with
        | some _ => simp at h1'
        | none =>
         have e0 := sb _ cm km m cap .slice3Acap rfl (h3 _ _ rfl rfl) (by omega) (by omega)
         have e := sb _ ch kh hh m.toNat .slice3B rfl (h2 _ _ rfl rfl) hk.1 (by omega)
         exact ⟨0, hh.toNat, some m.toNat, by simp [Instr.sliceBounds, e0, e], by omega, by omega, fun q hq => by cases hq; omega, hk.2.2.2⟩
       | some v =>
        cases clo with
        | none => simp at h1'
        | some c =>
         cases v <;> simp only at hk
         case i k l =>
          have e0 := sb _ cm km m cap .slice3Acap rfl (h3 _ _ rfl rfl) (by omega) (by omega)
          have e := sb _ ch kh hh m.toNat .slice3B rfl (h2 _ _ rfl rfl) (by omega) (by omega)
          have e2 := sb _ c k l hh.toNat .slice3C rfl (h1 _ _ rfl rfl) hk.1 (by omega)
          exact ⟨l.toNat, hh.toNat, some m.toNat, by simp [Instr.sliceBounds, e0, e, e2], by omega, by omega, fun q hq => by cases hq; omega, hk.2.2.2.2⟩
         all_goals exact hk.elim
      all_goals exact hk.elim
   all_goals exact hk.elim
theorem slc_sound (h : R C σ) {x : V} {c : Value} (hx : VR C x c) {t e : TypeId} {es : Nat} (ht : P.underlying t = some (.slice e)) (hs : szP P e = some es)
  {lo hi mx : Option V} {clo chi cmx : Option Value} (h1 : ∀ v c, lo = some v → clo = some c → VR C v c) (h1' : lo.isSome = clo.isSome)
  (h2 : ∀ v c, hi = some v → chi = some c → VR C v c) (h2' : hi.isSome = chi.isSome) (h3 : ∀ v c, mx = some v → cmx = some c → VR C v c) (h3' : mx.isSome = cmx.isSome)
  {K : V → Prop} (hk : slcK es x lo hi mx σ K) : Done C (fun v σ' => σ' = σ ∧ K v) ((Instr.sliceAt t c clo chi cmx).run P C.w) := by
 have key : ∀ (a : Option Addr) (len cap l hh m : Nat), (Instr.sliceBounds true len cap clo chi cmx).run P C.w = .ok (l, hh, m) C.w →
   (Instr.sliceAt t (.slice a len cap) clo chi cmx).run P C.w = .ok (.slice (if m = l then a else a.map (·.add (l * es))) (hh - l) (m - l)) C.w := by
  intro a len cap l hh m hb
  simp only [Instr.sliceAt, Sem.run_bind, run_underlying ht, Result.andThen_ok, Instr.slice, hb, run_sizeOf hs, Sem.run_pure]
 cases x <;> simp only [slcK] at hk
 case s id ver off len es' =>
  obtain ⟨rfl, hl, hk⟩ := hk
  obtain ⟨blk, bs, at_, cap, cc, t', rfl, hρ, hlc, hb, hsz, ha⟩ := slice_live (live_ver h hl) hx
  obtain ⟨l, hh, m, hrun, b1, b2, b3, hk⟩ := slcB_sound (P := P) hlc h1 h1' h2 h2' h3 h3' hk
  rw [key _ _ _ _ _ _ hrun]
  have hm : hh ≤ m.getD cap ∧ m.getD cap ≤ cap := by
   cases m with
   | none => simp; omega
   | some q => have := b3 q rfl; simp; omega
  by_cases hml : m.getD cap = l
  ·rw [if_pos hml]
   refine Done.same h (.s _ _ _ _ _ blk bs at_ _ cc t' hρ (live_ver h hl) (by omega) hb ?_ (fun hne => by omega)) ⟨rfl, hk⟩
   have : l * es ≤ cap * es := Nat.mul_le_mul_right _ (by omega)
   have e0 : (m.getD cap - l) = 0 := by omega
   rw [e0]
   omega
  ·rw [if_neg hml]
   simp only [Option.map_some, add_at]
   refine Done.same h (.s _ _ _ _ _ blk bs _ _ cc t' hρ (live_ver h hl) (by omega) hb ?_ (fun _ => by rw [ha (by omega)]; omega)) ⟨rfl, hk⟩
   have e1 : l * es + (m.getD cap - l) * es = (m.getD cap) * es := by rw [← Nat.add_mul]; congr 1; omega
   have e2 : (m.getD cap) * es ≤ cap * es := Nat.mul_le_mul_right _ hm.2
   omega
 case ss cells len full =>
  have fin : ∀ (a : Option Addr) (cap : Nat), len ≤ cap → (full = true → cap = len) → c = .slice a len cap →
    (∀ l n, l ≤ n → n ≤ len → ∀ cap', n - l ≤ cap' → (cap' = 0 ∨ cap' ≠ 0) → ∀ f, (f = true → cap' = n - l) → ∀ (b : Bool), (b = true → cap' = 0) → VR C (.ss ((cells.drop (l * es)).take ((n - l) * es)) (n - l) f) (.slice (if b then a else a.map (·.add (l * es))) (n - l) cap')) →
    Done C (fun v σ' => σ' = σ ∧ K v) ((Instr.sliceAt t c clo chi cmx).run P C.w) := by
   intro a cap hlc hf hc hV
   subst hc
   obtain ⟨l, hh, m, hrun, b1, b2, b3, hk⟩ := slcB_sound (P := P) hlc h1 h1' h2 h2' h3 h3' hk
   rw [key _ _ _ _ _ _ hrun]
   have hm : hh ≤ m.getD cap ∧ m.getD cap ≤ cap := by
    cases m with
    | none => simp; omega
    | some q => have := b3 q rfl; simp; omega
   have := hV l hh b1 b2 (m.getD cap - l) (by omega) (by omega) (fullOf m hh len full)
    (fun hE => by
     cases m with
     | none => simp only [fullOf, Bool.and_eq_true, decide_eq_true_eq] at hE; have := hf hE.1; simp; omega
     | some q => simp only [fullOf, decide_eq_true_eq] at hE; simp; omega) (decide (m.getD cap = l)) (fun hE => by simp at hE; omega)
   simp only [decide_eq_true_eq] at this
   exact Done.same h this ⟨rfl, hk⟩
  cases hx with
  | ss0 a cap =>
   refine fin a cap (by omega) (by simp) rfl (fun l n h1 h2 cap' h3 _ f hf b hb => ?_)
   obtain rfl : n = 0 := by omega
   obtain rfl : l = 0 := by omega
   simp only [List.drop_nil, List.take_nil, Nat.sub_self]
   cases f with
   | true => have := hf rfl; simp at this; subst this; exact .ssn _
   | false => exact .ss0 _ _
  | ssn a =>
   refine fin a 0 (by omega) (by simp) rfl (fun l n h1 h2 cap' h3 _ f hf b hb => ?_)
   obtain rfl : n = 0 := by omega
   obtain rfl : l = 0 := by omega
   simp only [List.drop_nil, List.take_nil, Nat.sub_self]
   cases f with
   | true => have := hf rfl; simp at this; subst this; exact .ssn _
   | false => exact .ss0 _ _
  | ss _ _ _ blk base cap cs hz hl h1' hc hv hlc hf =>
   refine fin (some ⟨blk, base, none⟩) cap hlc hf rfl (fun l n h1 h2 cap' h3 _ f hf' b hb => ?_)
   cases b with
   | true =>
    have := hb rfl
    have e0 : n - l = 0 := by omega
    rw [e0]
    simp only [Nat.zero_mul, List.take_zero, if_true]
    exact .ss [] 0 f blk base cap' [] hz rfl (by simp) (by simp) (by simp) (by omega) (fun hE => by have := hf' hE; omega)
   | false =>
    simp only [Bool.false_eq_true, if_false, Option.map_some, add_at]
    refine .ss _ _ f blk (base + l * es) cap' ((cs.drop (l * es)).take ((n - l) * es)) hz (by simp [hl]) (fun d hd => h1' d (List.mem_of_mem_drop (List.mem_of_mem_take hd))) (fun j d hd => ?_) (fun j x d hx hd => ?_) h3 hf'
    ·rw [List.getElem?_take] at hd
     split at hd
     ·rw [List.getElem?_drop] at hd
      rw [Nat.add_assoc]; exact hc _ d hd
     ·cases hd
    ·rw [List.getElem?_take] at hx hd
     split at hx
     ·rename_i hj
      rw [if_pos hj] at hd
      rw [List.getElem?_drop] at hx hd
      exact hv _ x d hx hd
     ·cases hx
 all_goals exact hk.elim
theorem sla_sound (h : R C σ) {x : V} {c : Value} (hx : VR C x c) {t e : TypeId} {n es : Nat} (ht : P.underlying t = some (.array n e)) (hs : szP P e = some es)
  {K : V → Prop} (hk : slaK n es x σ K) : Done C (fun v σ' => σ' = σ ∧ K v) ((Instr.sliceAt t c none none none).run P C.w) := by
 cases x <;> simp only [slaK] at hk
 case p id ver off =>
  split at hk
  ·rename_i v cells ho
   obtain ⟨rfl, hoff, hk⟩ := hk
   obtain ⟨blk, bs, cc, t', rfl, hρ, hb, hl, h1, hv⟩ := ptr_row h ho hx
   have : (Instr.sliceAt t (.pointer (some ⟨blk, bs + off, none⟩)) none none none).run P C.w = .ok (.slice (some ⟨blk, bs + off, none⟩) n n) C.w := by
    simp only [Instr.sliceAt, Sem.run_bind, run_underlying ht, Result.andThen_ok, Instr.sureAddr, Sem.run_pure, Instr.sliceBounds, run_sizeOf hs, Nat.zero_mul, Nat.sub_zero, add_at, Nat.add_zero]
    split <;> rfl
   rw [this]
   exact Done.same h (.s _ _ _ _ _ blk bs _ n cc t' hρ (h.ver id _ ho) (Nat.le_refl _) hb (by omega) (fun _ => rfl)) ⟨rfl, hk⟩
  ·exact hk.elim
 all_goals exact hk.elim
end
end Go.Ab
end
section
namespace Go.Ab
open Go
section
variable {P : Program} {C : Cx} {σ : List O}
theorem rowOf_sound (h : R C σ) {es : Nat} {y : V} {c : Value} (hy : VR C y c) {K : List V → Nat → Prop} (hk : rowOf es y σ K) :
  ∃ (a : Option Addr) (cap m : Nat) (ys : List V) (news : List Value), c = .slice a m cap ∧ CR C ys news ∧ ys.length = m * es ∧
   (∀ ad, a = some ad → ∀ (j : Nat) (u : Value), news[j]? = some u → C.w.cell? (ad.add j) = some u) ∧ (a = none → m = 0) ∧ K ys m := by
 cases y <;> simp only [rowOf] at hk
 case ss ys m full =>
  obtain ⟨hl, hk⟩ := hk
  cases hy with
  | ss0 a cap => exact ⟨a, cap, 0, [], [], rfl, ⟨rfl, by simp, by simp⟩, by simp, by simp, fun _ => rfl, hk⟩
  | ssn a => exact ⟨a, 0, 0, [], [], rfl, ⟨rfl, by simp, by simp⟩, by simp, by simp, fun _ => rfl, hk⟩
  | ss _ _ _ blk base cap cs hz hl' h1 hc hv hlc hf =>
   refine ⟨_, cap, m, ys, cs, rfl, ⟨hl', h1, hv⟩, hl, fun ad he j u hu => ?_, fun he => by simp at he, hk⟩
   cases he
   rw [add_at]; exact hc j u hu
 case s id ver off m es' =>
  split at hk
  ·rename_i v cells ho
   obtain ⟨rfl, rfl, hoff, hk⟩ := hk
   have hver := h.ver id _ ho
   obtain ⟨blk, bs, at_, cap, cc, t, rfl, hρ, hlc, hb, hsz, ha⟩ := slice_live hver hy
   obtain ⟨cc', t', hb', hl', h1, hv⟩ := row_inv (h.obj id _ blk bs ho hρ)
   rw [hb] at hb'; cases hb'
   refine ⟨_, cap, m, (cells.drop off).take (m * es), (cc.toList.drop (bs + off)).take (m * es), rfl, ⟨by simp; omega, fun d hd => ?_, fun j x d hx hd => ?_⟩, by simp; omega, fun ad he j u hu => ?_, fun he => by simp at he, hk⟩
   ·exact h1 d (by simpa using List.mem_of_mem_drop (List.mem_of_mem_take hd))
   ·rw [List.getElem?_take] at hx hd
    split at hx
    ·rename_i hj
     rw [if_pos hj] at hd
     rw [List.getElem?_drop] at hx hd
     exact hv (off + j) x d hx (by rw [← Nat.add_assoc]; simpa using hd)
    ·cases hx
   ·cases he
    rw [List.getElem?_take] at hu
    split at hu
    ·rename_i hj
     have hm : m ≠ 0 := fun e => by subst e; omega
     rw [List.getElem?_drop] at hu
     rw [add_at, ha (by omega), cell_of hb]
     simpa using hu
    ·cases hu
  ·exact hk.elim
 all_goals exact hk.elim
theorem run_append_room' (t ty e : TypeId) (i : TypeInfo) (ht : P.underlying t = some (.slice e)) (hi : P.info? e = some i) (w : World)
  (g o sLen sCap : Nat) (cur : Array Value) (t' : TypeId) (hg : w.heap[g]? = some (.cells cur t' (0, 0)))
  (a : Addr) (m c : Nat) (news : List Value) (hl : news.length = m * i.size) (hnews : ∀ (j : Nat) (u : Value), news[j]? = some u → w.cell? (a.add j) = some u) (h1 : ∀ u ∈ news, u.oneCell' = true)
  (hroom : sLen + m ≤ sCap) (hfit : o + sLen * i.size + news.length ≤ cur.size) :
  (Builtin.append_ #[t, t] ty #[.slice (some ⟨g, o, none⟩) sLen sCap, .slice (some a) m c]).run P w =
   .ok (.slice (some ⟨g, o, none⟩) (sLen + m) sCap) (w.setRow g (cur.toList.take (o + sLen * i.size) ++ news ++ cur.toList.drop (o + sLen * i.size + news.length)).toArray) := by
 have hf := run_firstCells_some (P := P) w i.size m a m c news hl hnews
 have hst := run_storeCells_at P g (o + sLen * i.size) t' news 0 cur w hg (by simpa using hfit) h1
 simp [Builtin.append_, run_underlying ht, sizeOf, typeInfo, hi, Builtin.lenOf, hroom, hf, add_at, hst]
theorem run_append_none (t ty e : TypeId) (i : TypeInfo) (ht : P.underlying t = some (.slice e)) (hi : P.info? e = some i) (w : World) (x : Option Addr) (n cap : Nat) (hn : n ≤ cap) (a : Option Addr) (c : Nat) :
  (Builtin.append_ #[t, t] ty #[.slice x n cap, .slice a 0 c]).run P w = .ok (.slice x n cap) w := by
 cases x <;> cases a <;> simp [Builtin.append_, run_underlying ht, sizeOf, typeInfo, hi, Builtin.lenOf, hn, Builtin.firstCells, loadCells, loadCellsFrom, storeCells]
theorem zeroCells_one {z : Array Value} (hz : ∀ c ∈ z, one1 c = true) (n : Nat) : ∀ c ∈ Builtin.zeroCells z n, one1 c = true := by
 intro c hc
 simp only [Builtin.zeroCells, Array.mem_map, Array.mem_range] at hc
 obtain ⟨i, hi, rfl⟩ := hc
 have h0 : 0 < z.size := by
  rcases Nat.eq_zero_or_pos z.size with h | h
  ·rw [h] at hi; omega
  ·exact h
 have hm := Nat.mod_lt i h0
 rw [getElem!_pos z _ hm]
 exact hz _ (Array.getElem_mem hm)
theorem grown_row (h : R C σ) {e : TypeId} {xs : List V} {cs : List Value} (hcr : CR C xs cs) (rest : Array Value) (hrest : ∀ c ∈ rest, one1 c = true) {n es cap : Nat} (hn : n ≤ cap)
  (hsz : cap * es ≤ (cs.toArray ++ rest).size) {K : V → List O → Prop} (hk : K (.s σ.length 0 0 n es) (σ ++ [.row 0 xs])) :
  Done C K (.ok (.slice (some ⟨C.w.heap.size, 0, none⟩) n cap) (C.w.drew.alloc (.cells (cs.toArray ++ rest) e))) := by
 obtain ⟨q1, q2⟩ := h.quiet (w' := C.w.drew) rfl rfl rfl (Nat.le_refl _) (fun _ _ => rfl)
 have hb : ((C.world C.w.drew).alloc (.cells (cs.toArray ++ rest) e)).w.heap[C.w.heap.size]? = some (.cells (cs.toArray ++ rest) e (0, 0)) := heap_alloc_eq C.w.drew _
 have e2 := alloc_ext q1.wf (.cells (cs.toArray ++ rest) e)
 have r1 := q1.alloc (.cells (cs.toArray ++ rest) e) (.row 0 xs) rfl (.row 0 xs (cs.toArray ++ rest) e hb (by have := hcr.1; simp; omega) (fun c hc => by
   simp only [Array.mem_append] at hc
   rcases hc with hc | hc
   ·exact hcr.2.1 c (by simpa using hc)
   ·exact hrest c hc) (fun j x c hx hc => by
    have hj := (List.getElem?_eq_some_iff.1 hx).1
    have hlen := hcr.1
    rw [Nat.zero_add, Array.getElem?_append_left (by simp; omega)] at hc
    exact ((hcr.2.2 j x c hx (by simpa using hc)).ext q2 h.wf).ext e2 q1.wf))
 refine ⟨_, (C.world C.w.drew).alloc (.cells (cs.toArray ++ rest) e), _, _, rfl, r1, q2.trans e2, ?_, hk⟩
 refine .s _ _ _ _ _ C.w.heap.size 0 0 cap (cs.toArray ++ rest) e ?_ ?_ hn hb (by simpa using hsz) (fun _ => rfl)
 ·show (C.ρ ++ _)[σ.length]? = _
  rw [h.len, ← h.wf.len]; simp [Cx.world]
 ·show (C.vs ++ _)[σ.length]? = _
  rw [h.len]; simp [Cx.world]
theorem CR.append {xs ys : List V} {cs ds : List Value} (h : CR C xs cs) (k : CR C ys ds) : CR C (xs ++ ys) (cs ++ ds) := by
 refine ⟨by simp [h.1, k.1], fun c hc => ?_, fun j x c hx hc => ?_⟩
 ·rcases List.mem_append.1 hc with hc | hc
  ·exact h.2.1 c hc
  ·exact k.2.1 c hc
 ·by_cases hj : j < xs.length
  ·rw [List.getElem?_append_left hj] at hx
   rw [List.getElem?_append_left (by rw [h.1]; exact hj)] at hc
   exact h.2.2 j x c hx hc
  ·rw [List.getElem?_append_right (by omega)] at hx
   rw [List.getElem?_append_right (by rw [h.1]; omega), h.1] at hc
   exact k.2.2 _ x c hx hc
theorem bytes_bound {n b : Nat} (hb : 0 < b) (h : n * b ≤ 140737488355328) : n ≤ 140737488355328 := Nat.le_trans (Nat.le_mul_of_pos_right n hb) h
theorem app_sound (h : R C σ) {x y : V} {cx cy : Value} (hx : VR C x cx) (hy : VR C y cy) {t e ty : TypeId} {i : TypeInfo} (ht : P.underlying t = some (.slice e)) (hi : P.info? e = some i)
  {zs : List V} (hz : zcP P e = some zs) (hzl : zs.length = i.size) (hb0 : 0 < i.bytes) {K : V → List O → Prop} (hk : appK i.size i.bytes x y σ K) :
  Done C K ((Builtin.append_ #[t, t] ty #[cx, cy]).run P C.w) := by
 obtain ⟨z, hzr, hza, hzb, hzc, i', hi', hiz⟩ := zcP_sound hz C
 rw [hi] at hi'; cases hi'
 have hzs : z.cells.size = i.size := by rw [hza, hzl]
 unfold appK at hk
 obtain ⟨a, capy, m, ys, news, rfl, hcr, hlen, hcell, hnone, hk'⟩ := rowOf_sound h hy hk
 clear hk
 have hk := hk'
 clear hk'
 have hnl : news.length = m * i.size := by rw [hcr.1, hlen]
 cases x
 case ss xs n full =>
  cases full with
  | false => exact False.elim hk
  | true =>
   obtain ⟨hxl, hbig, hk⟩ := hk
   by_cases hm : m = 0
   ·rw [if_pos hm] at hk
    subst hm
    have hlc : ∃ x0 cap, cx = .slice x0 n cap ∧ n ≤ cap := by
     cases hx with
     | ssn a => exact ⟨a, 0, rfl, Nat.le_refl _⟩
     | ss _ _ _ blk base cap cs hz hl h1 hc hv hlc hf => exact ⟨_, cap, rfl, hlc⟩
    obtain ⟨x0, cap, rfl, hlc⟩ := hlc
    rw [run_append_none t ty e i ht hi _ _ _ _ hlc]
    exact Done.same h hx hk
   ·rw [if_neg hm] at hk
    obtain ⟨ad, rfl⟩ : ∃ ad, a = some ad := by
     cases a with
     | none => exact absurd (hnone rfl) hm
     | some ad => exact ⟨ad, rfl⟩
    have hbn := bytes_bound hb0 hbig
    have grow : ∀ (b : Addr) (olds : List Value), CR C xs olds → (∀ (j : Nat) (u : Value), olds[j]? = some u → C.w.cell? (b.add j) = some u) →
      Done C K ((Builtin.append_ #[t, t] ty #[.slice (some b) n n, .slice (some ad) m capy]).run P C.w) := by
     intro b olds hco holds
     rw [run_append_grow C.w t ty e i z ht hi hiz b n n olds (by rw [hco.1, hxl]) holds ad m capy news hnl (hcell ad rfl) (by omega) (by omega) (growslice_fits (by omega) hbig)]
     have hge := grownCap_ge C.w (n + m) n e
     rw [show olds.toArray ++ news.toArray = (olds ++ news).toArray by simp]
     refine grown_row h (hco.append hcr) _ (zeroCells_one hzb _) hge ?_ hk
     rw [Array.size_append, size_zeroCells, hzs]
     simp only [List.size_toArray, List.length_append, hco.1, hxl, hnl]
     rw [← Nat.add_mul, ← Nat.add_mul]
     exact Nat.mul_le_mul_right _ (by omega)
    cases hx with
    | ssn a' =>
     cases a' with
     | none =>
      rw [run_append_nil C.w t ty e i z ht hi hiz ad m capy news hnl (hcell ad rfl) (by omega) (by omega) (by rw [Nat.zero_add] at hbig; omega)]
      have hge := grownCap_ge C.w m 0 e
      rw [Nat.zero_add, List.nil_append] at hk
      refine grown_row h hcr _ (zeroCells_one hzb _) hge ?_ hk
      rw [Array.size_append, size_zeroCells, hzs]
      simp only [List.size_toArray, hnl]
      rw [← Nat.add_mul]
      exact Nat.mul_le_mul_right _ (by omega)
     | some b => exact grow b [] ⟨rfl, by simp, by simp⟩ (by simp)
    | ss _ _ _ blk base cap cs hz hl h1 hc hv hlc hf =>
     obtain rfl := hf rfl
     exact grow ⟨blk, base, none⟩ cs ⟨hl, h1, hv⟩ (fun j u hu => by rw [add_at]; exact hc j u hu)
 case s id ver off n es' =>
  dsimp only at hk
  split at hk
  ·rename_i v cells ho
   obtain ⟨rfl, rfl, hoff, hbig, hk⟩ := hk
   have hver := h.ver id _ ho
   obtain ⟨blk, bs, at_, cap, cc, t', rfl, hρ, hlc, hb, hsz, ha⟩ := slice_live hver hx
   obtain ⟨cc', t'', hb', hl', h1, hv⟩ := row_inv (h.obj id _ blk bs ho hρ)
   rw [hb] at hb'; cases hb'
   have hbn := bytes_bound hb0 hbig
   by_cases hm : m = 0
   ·rw [if_pos hm] at hk
    subst hm
    rw [run_append_none t ty e i ht hi _ _ _ _ hlc]
    exact Done.same h hx hk
   ·rw [if_neg hm] at hk
    obtain ⟨ad, rfl⟩ : ∃ ad, a = some ad := by
     cases a with
     | none => exact absurd (hnone rfl) hm
     | some ad => exact ⟨ad, rfl⟩
    have hdl : (cells.drop off).length = n * i.size := by rw [List.length_drop]; omega
    by_cases hroom : n + m ≤ cap
    ·have hcapm : (n + m) * i.size ≤ cap * i.size := Nat.mul_le_mul_right _ hroom
     have hadd : (n + m) * i.size = n * i.size + m * i.size := Nat.add_mul _ _ _
     have hat := ha (by omega)
     subst hat
     have hfit : bs + off + n * i.size + news.length ≤ cc.size := by rw [hnl]; omega
     rw [run_append_room' t ty e i ht hi C.w blk (bs + off) n cap cc t' hb ad m capy news hnl (hcell ad rfl) hcr.2.1 hroom hfit]
     have hfit' : bs + off + n * i.size + news.length ≤ cc.toList.length := by simpa using hfit
     have hrow := setRow_heap C.w blk cc (cc.toList.take (bs + off + n * i.size) ++ news ++ cc.toList.drop (bs + off + n * i.size + news.length)).toArray t' (0, 0) hb
     have hsl := splice_len cc.toList news (bs + off + n * i.size) hfit'
     obtain ⟨r1, r2⟩ := h.turn (o' := .row (v + 1) (cells.drop off ++ ys)) (bs' := bs + off) ho hρ (.inr (by simp [O.ver])) (w' := C.w.setRow blk (cc.toList.take (bs + off + n * i.size) ++ news ++ cc.toList.drop (bs + off + n * i.size + news.length)).toArray) rfl rfl rfl (by simp)
      (fun b _ hne => setRow_other _ _ _ _ hne) (fun cc' t'' hc => by rw [hb] at hc; cases hc; exact ⟨_, hrow, by simpa using hsl⟩)
      (fun ex => .row _ _ _ t' hrow (by rw [List.length_append, hdl, hlen]; simp at hsl ⊢; omega) (fun c hc => by
        simp only [List.mem_toArray, List.mem_append] at hc
        rcases hc with (hc | hc) | hc
        ·exact h1 c (by simpa using List.mem_of_mem_take hc)
        ·exact hcr.2.1 c hc
        ·exact h1 c (by simpa using List.mem_of_mem_drop hc)) (fun j x c hx hc => by
        rw [List.getElem?_toArray, splice_get _ _ _ _ hfit'] at hc
        by_cases hj : j < n * i.size
        ·rw [List.getElem?_append_left (by omega), List.getElem?_drop] at hx
         rw [if_neg (by omega)] at hc
         exact (hv (off + j) x c hx (by rw [← Nat.add_assoc]; simpa using hc)).ext ex h.wf
        ·rw [List.getElem?_append_right (by omega), hdl] at hx
         have hj2 := (List.getElem?_eq_some_iff.1 hx).1
         rw [if_pos (by rw [hnl]; omega), show bs + off + j - (bs + off + n * i.size) = j - n * i.size by omega] at hc
         exact (hcr.2.2 _ x c hx hc).ext ex h.wf))
     refine ⟨_, _, _, _, rfl, r1, r2, ?_, hk⟩
     have hlt : id < C.vs.length := (List.getElem?_eq_some_iff.1 hver).1
     have hltρ : id < C.ρ.length := (List.getElem?_eq_some_iff.1 hρ).1
     refine .s id (v + 1) 0 (n + m) _ blk (bs + off) (bs + off) cap _ t' (List.getElem?_set_self hltρ) (List.getElem?_set_self hlt) hroom hrow ?_ (fun _ => rfl)
     simp only [List.size_toArray, hsl, Nat.add_zero]
     simpa using hsz
    ·have hco : CR C (cells.drop off) ((cc.toList.drop (bs + off)).take (n * i.size)) := by
      have hns : n * i.size ≤ cap * i.size := Nat.mul_le_mul_right _ hlc
      refine ⟨by simp; omega, fun d hd => h1 d (by simpa using List.mem_of_mem_drop (List.mem_of_mem_take hd)), fun j x d hx hd => ?_⟩
      rw [List.getElem?_take] at hd
      split at hd
      ·rw [List.getElem?_drop] at hx hd
       exact hv (off + j) x d hx (by rw [← Nat.add_assoc]; simpa using hd)
      ·cases hd
     have holds : ∀ (j : Nat) (u : Value), ((cc.toList.drop (bs + off)).take (n * i.size))[j]? = some u → C.w.cell? ((⟨blk, at_, none⟩ : Addr).add j) = some u := by
      intro j u hu
      rw [List.getElem?_take] at hu
      split at hu
      ·rename_i hj
       have hn0 : n ≠ 0 := fun e => by subst e; omega
       rw [List.getElem?_drop] at hu
       rw [add_at, ha (by omega), cell_of hb]
       simpa using hu
      ·cases hu
     rw [run_append_grow C.w t ty e i z ht hi hiz ⟨blk, at_, none⟩ n cap _ (by rw [hco.1, hdl]) holds ad m capy news hnl (hcell ad rfl) (by omega) (by omega) (growslice_fits (by omega) hbig)]
     have hge := grownCap_ge C.w (n + m) cap e
     have hall := hco.append hcr
     have hbN : (C.w.drew.alloc (.cells (((cc.toList.drop (bs + off)).take (n * i.size)).toArray ++ news.toArray ++ Builtin.zeroCells z.cells (grownCap C.w (n + m) cap e - (n + m))) e)).heap[C.w.heap.size]? = some (.cells (((cc.toList.drop (bs + off)).take (n * i.size)).toArray ++ news.toArray ++ Builtin.zeroCells z.cells (grownCap C.w (n + m) cap e - (n + m))) e (0, 0)) := heap_alloc_eq C.w.drew _
     have hsizeN : (((cc.toList.drop (bs + off)).take (n * i.size)).toArray ++ news.toArray ++ Builtin.zeroCells z.cells (grownCap C.w (n + m) cap e - (n + m))).size = grownCap C.w (n + m) cap e * i.size := by
      rw [Array.size_append, Array.size_append, size_zeroCells, hzs]
      simp only [List.size_toArray, hco.1, hdl, hnl]
      rw [← Nat.add_mul, ← Nat.add_mul]
      congr 1; omega
     obtain ⟨r1, r2⟩ := h.move (o' := .row (v + 1) (cells.drop off ++ ys)) ho (by simp [O.ver]) (w' := C.w.drew.alloc (.cells (((cc.toList.drop (bs + off)).take (n * i.size)).toArray ++ news.toArray ++ Builtin.zeroCells z.cells (grownCap C.w (n + m) cap e - (n + m))) e))
      rfl rfl rfl (by simp) (fun b hb => heap_alloc_lt C.w.drew _ hb)
      (fun ex => .row _ _ _ e hbN (by
        rw [hsizeN, List.length_append, hdl, hlen, Nat.zero_add, ← Nat.add_mul]
        exact Nat.mul_le_mul_right _ hge) (fun c hc => by
        simp only [Array.mem_append] at hc
        rcases hc with (hc | hc) | hc
        ·exact hco.2.1 c (by simpa using hc)
        ·exact hcr.2.1 c (by simpa using hc)
        ·exact zeroCells_one hzb _ c hc) (fun j x c hx hc => by
        have hj := (List.getElem?_eq_some_iff.1 hx).1
        have hal := hall.1
        rw [Nat.zero_add, Array.getElem?_append_left (by simp at hj hal ⊢; omega)] at hc
        exact (hall.2.2 j x c hx (by simpa using hc)).ext ex h.wf))
     refine ⟨_, _, _, _, rfl, r1, r2, ?_, hk⟩
     have hlt : id < C.vs.length := (List.getElem?_eq_some_iff.1 hver).1
     have hltρ : id < C.ρ.length := (List.getElem?_eq_some_iff.1 hρ).1
     exact .s id (v + 1) 0 (n + m) _ C.w.heap.size 0 0 _ _ e (List.getElem?_set_self hltρ) (List.getElem?_set_self hlt) hge hbN (by rw [hsizeN]; omega) (fun _ => rfl)
  ·exact hk.elim
 all_goals exact False.elim hk
theorem clr_sound (h : R C σ) {x : V} {c : Value} (hx : VR C x c) {t e ty : TypeId} {es : Nat} (ht : P.underlying t = some (.slice e)) (hs : szP P e = some es) {zs : List V} (hz : zcP P e = some zs) (hzl : zs.length = es)
  {K : V → List O → Prop} (hk : clrK es zs x σ K) : Done C K ((Builtin.clear_ #[t] ty #[c]).run P C.w) := by
 obtain ⟨z, hzr, hza, hzb, hzc, -⟩ := zcP_sound hz C
 have hzs : z.cells.size = es := by rw [hza, hzl]
 cases x <;> simp only [clrK] at hk
 case s id ver off n es' =>
  split at hk
  ·rename_i v cells ho
   obtain ⟨rfl, rfl, hoff, hk⟩ := hk
   have hver := h.ver id _ ho
   obtain ⟨blk, bs, at_, cap, cc, t', rfl, hρ, hlc, hb, hsz, ha⟩ := slice_live hver hx
   obtain ⟨cc', t'', hb', hl', h1, hv⟩ := row_inv (h.obj id _ blk bs ho hρ)
   rw [hb] at hb'; cases hb'
   by_cases hn : n = 0
   ·subst hn
    have : (Builtin.clear_ #[t] ty #[.slice (some ⟨blk, at_, none⟩) 0 cap]).run P C.w = .ok (.tuple #[]) C.w := by simp [Builtin.clear_, run_underlying ht]
    rw [this]
    refine Done.same h (.u _) ?_
    have e1 : splice cells off (rep 0 zs) = cells := by simp [splice, rep]
    rw [e1] at hk
    have e2 : σ.set id (.row v cells) = σ := by
     apply List.ext_getElem?
     intro j
     by_cases hj : j = id
     ·subst hj; rw [List.getElem?_set_self (List.getElem?_eq_some_iff.1 ho).1, ho]
     ·rw [List.getElem?_set_ne (fun e => hj e.symm)]
    rwa [e2] at hk
   ·have hat := ha (by omega)
    subst hat
    have hcr := zeros_cr (C := C) hza hzb hzc n
    rw [hzs] at hcr
    have hzc' : (Builtin.zeroCells z.cells n).toList = ((Array.range (n * es)).map (z.cells[· % es]!)).toList := by simp only [Builtin.zeroCells, hzs]
    rw [← hzc'] at hcr
    have hrl : (rep n zs).length = n * es := by rw [rep_len, hzl]
    have hlc' : (Builtin.zeroCells z.cells n).toList.length = n * es := by rw [hcr.1, hrl]
    have hst := run_storeCells_at P blk (bs + off) t' (Builtin.zeroCells z.cells n).toList 0 cc C.w hb (by rw [hlc']; omega) hcr.2.1
    rw [Nat.add_zero] at hst
    have : (Builtin.clear_ #[t] ty #[.slice (some ⟨blk, bs + off, none⟩) n cap]).run P C.w = .ok (.tuple #[]) (C.w.setRow blk (cc.toList.take (bs + off) ++ (Builtin.zeroCells z.cells n).toList ++ cc.toList.drop (bs + off + (Builtin.zeroCells z.cells n).toList.length)).toArray) := by
     obtain ⟨k, rfl⟩ : ∃ k, n = k + 1 := ⟨n - 1, by omega⟩
     obtain ⟨W', hW'⟩ : ∃ W', C.w.setRow blk (cc.toList.take (bs + off) ++ (Builtin.zeroCells z.cells (k + 1)).toList ++ cc.toList.drop (bs + off + (Builtin.zeroCells z.cells (k + 1)).toList.length)).toArray = W' := ⟨_, rfl⟩
     rw [hW'] at hst ⊢
     simp [Builtin.clear_, run_underlying ht, hzr, hst]
    rw [this]
    obtain ⟨r1, r2⟩ := write_row h ho hρ hb hl' h1 hv hcr (off := off) (by omega)
    exact ⟨_, _, .u, _, rfl, r1, r2, .u _, hk⟩
  ·exact hk.elim
 case ss cells n full =>
  cases cells with
  | cons _ _ => exact False.elim hk
  | nil =>
   cases n with
   | succ n => exact False.elim hk
   | zero =>
    have key : ∀ a cap, (Builtin.clear_ #[t] ty #[.slice a 0 cap]).run P C.w = .ok (.tuple #[]) C.w := fun a cap => by
     cases a <;> simp [Builtin.clear_, run_underlying ht]
    cases hx with
    | ss0 a cap => rw [key]; exact Done.same h (.u _) hk
    | ssn a => rw [key]; exact Done.same h (.u _) hk
    | ss => rw [key]; exact Done.same h (.u _) hk
 all_goals exact hk.elim
theorem cpy_sound (h : R C σ) {d s : V} {cd cs : Value} (hd : VR C d cd) (hs : VR C s cs) {t t2 e ty : TypeId} {es : Nat} (ht : P.underlying t = some (.slice e)) (hsz : szP P e = some es)
  {K : V → List O → Prop} (hk : cpyK es d s σ K) : Done C K ((Builtin.copy_ #[t, t2] ty #[cd, cs]).run P C.w) := by
 unfold cpyK at hk
 obtain ⟨a, capy, m, ys, news, rfl, hcr, hlen, hcell, hnone, hk'⟩ := rowOf_sound h hs hk
 clear hk
 have hk := hk'
 clear hk'
 have hnl : news.length = m * es := by rw [hcr.1, hlen]
 cases d
 case s id ver off n es' =>
  dsimp only at hk
  split at hk
  ·rename_i v cells ho
   obtain ⟨rfl, rfl, hoff, hk⟩ := hk
   have hver := h.ver id _ ho
   obtain ⟨blk, bs, at_, cap, cc, t', rfl, hρ, hlc, hb, hszc, ha⟩ := slice_live hver hd
   obtain ⟨cc', t'', hb', hl', h1, hv⟩ := row_inv (h.obj id _ blk bs ho hρ)
   rw [hb] at hb'; cases hb'
   have hcr' : CR C (ys.take (min m n * es)) (news.take (min m n * es)) := by
    refine ⟨by simp [hcr.1], fun c hc => hcr.2.1 c (List.mem_of_mem_take hc), fun j x c hx hc => ?_⟩
    rw [List.getElem?_take] at hx hc
    split at hx
    ·rename_i hj; rw [if_pos hj] at hc; exact hcr.2.2 j x c hx hc
    ·cases hx
   have hmn : min m n * es ≤ m * es := Nat.mul_le_mul_right _ (Nat.min_le_left _ _)
   have hmn2 : min m n * es ≤ n * es := Nat.mul_le_mul_right _ (Nat.min_le_right _ _)
   have hln : (news.take (min m n * es)).length = min m n * es := by rw [List.length_take, hnl]; omega
   have hfc : (Builtin.firstCells es (min m n) (.slice a m capy)).run P C.w = .ok (news.take (min m n * es)).toArray C.w := by
    cases a with
    | none =>
     have := hnone rfl
     subst this
     have : news = [] := List.eq_nil_of_length_eq_zero (by rw [hnl]; simp)
     subst this
     simp [Builtin.firstCells]
    | some ad =>
     have := run_firstCells_some (P := P) C.w es (min m n) ad m capy (news.take (min m n * es)) hln (fun j u hu => by
      rw [List.getElem?_take] at hu
      split at hu
      ·exact hcell ad rfl j u hu
      ·cases hu)
     exact this
   by_cases hz : min m n * es = 0
   ·have hnil : news.take (min m n * es) = [] := List.eq_nil_of_length_eq_zero (by rw [hln, hz])
    have : (Builtin.copy_ #[t, t2] ty #[.slice (some ⟨blk, at_, none⟩) n cap, .slice a m capy]).run P C.w = .ok (.int .i64 (min m n : Nat)) C.w := by
     have e0 : Nat.min m n = min m n := rfl
     simp [Builtin.copy_, run_underlying ht, Builtin.lenOf, run_sizeOf hsz, e0, hfc, hnil, storeCells, goInt]
    rw [this]
    refine Done.same h (.i _ _) ?_
    have e1 : splice cells off (ys.take (min m n * es)) = cells := by rw [hz]; simp [splice]
    rw [e1] at hk
    have e2 : σ.set id (.row v cells) = σ := by
     apply List.ext_getElem?
     intro j
     by_cases hj : j = id
     ·subst hj; rw [List.getElem?_set_self (List.getElem?_eq_some_iff.1 ho).1, ho]
     ·rw [List.getElem?_set_ne (fun e => hj e.symm)]
    rwa [e2] at hk
   ·have hn0 : n ≠ 0 := fun e => by subst e; simp at hz
    have hat := ha (by omega)
    subst hat
    have hst := run_storeCells_at P blk (bs + off) t' (news.take (min m n * es)) 0 cc C.w hb (by rw [hln]; omega) hcr'.2.1
    rw [Nat.add_zero] at hst
    have : (Builtin.copy_ #[t, t2] ty #[.slice (some ⟨blk, bs + off, none⟩) n cap, .slice a m capy]).run P C.w = .ok (.int .i64 (min m n : Nat)) (C.w.setRow blk (cc.toList.take (bs + off) ++ news.take (min m n * es) ++ cc.toList.drop (bs + off + (news.take (min m n * es)).length)).toArray) := by
     have e0 : Nat.min m n = min m n := rfl
     obtain ⟨W', hW'⟩ : ∃ W', C.w.setRow blk (cc.toList.take (bs + off) ++ news.take (min m n * es) ++ cc.toList.drop (bs + off + (news.take (min m n * es)).length)).toArray = W' := ⟨_, rfl⟩
     rw [hW'] at hst ⊢
     simp [Builtin.copy_, run_underlying ht, Builtin.lenOf, run_sizeOf hsz, e0, hfc, hst, goInt]
    rw [this]
    obtain ⟨r1, r2⟩ := write_row h ho hρ hb hl' h1 hv hcr' (off := off) (by have := hcr'.1; omega)
    exact ⟨_, _, _, _, rfl, r1, r2, .i _ _, hk⟩
  ·exact hk.elim
 case ss cells n full =>
  cases cells with
  | cons _ _ => exact False.elim hk
  | nil =>
   cases n with
   | succ n => exact False.elim hk
   | zero =>
    have key : ∀ x0 cap, (Builtin.copy_ #[t, t2] ty #[.slice x0 0 cap, .slice a m capy]).run P C.w = .ok (.int .i64 0) C.w := fun x0 cap => by
     cases x0 <;> cases a <;> simp [Builtin.copy_, run_underlying ht, Builtin.lenOf, run_sizeOf hsz, Builtin.firstCells, loadCells, loadCellsFrom, storeCells, goInt]
    cases hd with
    | ss0 a cap => rw [key]; exact Done.same h (.i _ _) hk
    | ssn a => rw [key]; exact Done.same h (.i _ _) hk
    | ss => rw [key]; exact Done.same h (.i _ _) hk
 all_goals exact False.elim hk
theorem mx_sound (h : R C σ) {xs : List V} {cs : List Value} (hv : VRl C xs cs) {f : Int → Int → Int} {f2 : Value → Value → Sem Value} (hf : ∀ k a k' b, f2 (.int k a) (.int k' b) = pure (.int k (f a b)))
  {K : V → Prop} (hk : mxK f xs K) (r : Sem Value) (hr : ∀ c ds, cs = c :: ds → r = ds.foldlM f2 c) : Done C (fun v σ' => σ' = σ ∧ K v) (r.run P C.w) := by
 unfold mxK at hk
 split at hk
 ·rename_i k a l
  split at hk
  ·rename_i ns hn
   cases cs with
   | nil => have := hv.1; simp at this
   | cons c ds =>
    obtain rfl := int_inv (hv.2 0 _ _ rfl rfl)
    rw [hr _ _ rfl]
    obtain ⟨hl, hq⟩ := intsOf_sound hn (by have := hv.1; simpa using this) (fun j x d hx hd => hv.2 (j + 1) x d (by simpa using hx) (by simpa using hd))
    have : ∀ (ds : List Value) (ns : List Int) (a : Int), ns.length = ds.length → (∀ (j : Nat) (c : Value), ds[j]? = some c → ∃ k n, c = .int k n ∧ ns[j]? = some n) →
      (ds.foldlM f2 (.int k a)).run P C.w = .ok (.int k (ns.foldl f a)) C.w := by
     intro ds
     induction ds with
     | nil => intro ns a hl _; have : ns = [] := List.eq_nil_of_length_eq_zero hl; subst this; simp
     | cons d ds ih =>
      intro ns a hl hq
      cases ns with
      | nil => simp at hl
      | cons n ns =>
       obtain ⟨k', n', rfl, hn'⟩ := hq 0 d rfl
       simp at hn'; subst hn'
       rw [List.foldlM_cons, hf]
       simp only [pure_bind, List.foldl_cons]
       exact ih ns _ (by simpa using hl) (fun j c hc => hq (j + 1) c (by simpa using hc))
    rw [this ds ns a hl hq]
    exact Done.same h (.i _ _) ⟨rfl, hk⟩
  ·exact hk.elim
 ·exact hk.elim
end
end Go.Ab
end
section
namespace Go.Ab
open Go
section
variable {P : Program} {C : Cx} {σ : List O}
def iv (q : IntKind) (l : List Int) : Array Value := (l.map (Value.int q)).toArray
theorem intsK_sound {q : IntKind} : ∀ {xs : List V} {a : List Int} {cs : List Value}, intsK q xs = some a → cs.length = xs.length →
  (∀ (j : Nat) (x : V) (c : Value), xs[j]? = some x → cs[j]? = some c → VR C x c) → cs = a.map (Value.int q) ∧ a.length = xs.length
 | [], a, cs, h, hl, hv => by
  simp [intsK] at h; subst h
  exact ⟨List.eq_nil_of_length_eq_zero hl, rfl⟩
 | x :: xs, a, [], h, hl, hv => by simp at hl
 | x :: xs, a, c :: cs, h, hl, hv => by
  cases x <;> simp only [intsK, reduceCtorEq] at h
  case i k n =>
   split at h
   ·rename_i hk
    subst hk
    simp only [Option.map_eq_some_iff] at h
    obtain ⟨b, hb, rfl⟩ := h
    obtain ⟨p, p2⟩ := intsK_sound hb (by simpa using hl) (fun j y d hy hd => hv (j + 1) y d (by simpa using hy) (by simpa using hd))
    exact ⟨by rw [int_inv (hv 0 _ _ rfl rfl), p]; rfl, by simp [p2]⟩
   ·cases h
theorem agg_ints {q : IntKind} {xs : List V} {a : List Int} {c : Value} (hx : VR C (.agg xs) c) (h : intsK q xs = some a) : c = .agg (iv q a) ∧ a.length = xs.length := by
 obtain ⟨ds, rfl, hc⟩ := agg_inv hx
 obtain ⟨e, e2⟩ := intsK_sound h hc.1 hc.2.2
 exact ⟨by rw [iv, ← e], e2⟩
theorem iv_get {q : IntKind} {l : List Int} {j : Nat} (h : j < l.length) : (iv q l)[j]? = some (.int q l[j]) := by
 simp [iv, h]
theorem part_iv {t : TypeId} {q : IntKind} (ht : P.underlying t = some (.int q)) {l : List Int} {j : Nat} (h : j < l.length) (w : World) : (part t (iv q l) j).run P w = .ok (.int q l[j]) w := by
 have ha : aggP P t = some false := by simp [aggP, ht]
 simp [part, run_isAgg_false ha, iv_get h]
theorem eqFields_ints {q : IntKind} (d : Nat) (a b : List Int) (w : World) : ∀ (fs : List Field) (j : Nat), intFields P q fs j = true → a.length = j + fs.length → b.length = j + fs.length →
  (Op.eqFields (d + 1) (iv q a) (iv q b) fs).run P w = .ok (decide (a.drop j = b.drop j)) w
 | [], j, _, ha, hb => by
  have e1 : a.drop j = [] := List.drop_of_length_le (by simpa using Nat.le_of_eq ha)
  have e2 : b.drop j = [] := List.drop_of_length_le (by simpa using Nat.le_of_eq hb)
  simp [Op.eqFields, e1, e2]
 | f :: fs, j, h, ha, hb => by
  simp only [intFields, Bool.and_eq_true] at h
  obtain ⟨⟨⟨⟨h1, h2⟩, h3⟩, h4⟩, h5⟩ := h
  have ht : P.underlying f.type = some (.int q) := by
   split at h4
   ·rename_i k hk; rw [hk]; simp at h4; rw [h4]
   ·cases h4
  have hja : j < a.length := by simp at ha; omega
  have hjb : j < b.length := by simp at hb; omega
  have hoff : f.offset = j := by simpa using h2
  have hne : f.name ≠ "_" := by simpa using h1
  have ih := eqFields_ints d a b w fs (j + 1) h5 (by simp at ha; omega) (by simp at hb; omega)
  simp only [Op.eqFields, hne, ne_eq, not_false_eq_true, if_true, Sem.run_bind, hoff, part_iv ht hja, part_iv ht hjb, Result.andThen_ok, run_equalIn_int w d f.type q q a[j] b[j] ht]
  have hd : (a.drop j = b.drop j) ↔ (a[j] = b[j] ∧ a.drop (j + 1) = b.drop (j + 1)) := by
   rw [List.drop_eq_getElem_cons hja, List.drop_eq_getElem_cons hjb, List.cons.injEq]
  simp only [hd]
  by_cases he : a[j] = b[j]
  ·have : (!(a[j] == b[j])) = false := by simp [he]
   rw [this]
   simp only [Bool.false_eq_true, if_false, ih, he, true_and]
  ·have : (!(a[j] == b[j])) = true := by simp [he]
   rw [this]
   simp [he]
theorem equal_struct {q : IntKind} {t : TypeId} {fs : Array Field} (ht : P.underlying t = some (.struct fs)) (hp : P.stoodInHeld t = false) (hi : intFields P q fs.toList 0 = true) (d : Nat) {a b : List Int}
  (ha : a.length = fs.size) (hb : b.length = fs.size) (w : World) : (Op.equalIn (d + 2) t (.agg (iv q a)) (.agg (iv q b))).run P w = .ok (decide (a = b)) w := by
 have hf : P.fieldsOf t = fs := by simp [Program.fieldsOf, ht]
 rw [run_equalIn_struct w (d + 1) t _ _ (by rw [hf]; exact ht) hp, hf, eqFields_ints d a b w fs.toList 0 hi (by simpa using ha) (by simpa using hb)]
 simp
theorem equal_array {q : IntKind} {t e : TypeId} {n : Nat} (ht : P.underlying t = some (.array n e)) (he : P.underlying e = some (.int q)) (hs : szP P e = some 1) (d : Nat) {a b : List Int}
  (ha : a.length = n) (hb : b.length = n) (w : World) : (Op.equalIn (d + 2) t (.agg (iv q a)) (.agg (iv q b))).run P w = .ok (decide (a = b)) w := by
 have key : ∀ (k j : Nat), j + k = n →
   ((forIn (List.range' j k) ((none, ()) : Option Bool × Unit) fun i r => do
    let __do_lift ← part e (iv q a) i
    let __do_lift_1 ← part e (iv q b) i
    let __do_lift ← Op.equalIn (d + 1) e __do_lift __do_lift_1
    if (!__do_lift) = true then pure (ForInStep.done (some false, ())) else pure (ForInStep.yield (none, ()))).run P w) =
    .ok (if a.drop j = b.drop j then (none, ()) else (some false, ())) w := by
  intro k
  induction k with
  | zero =>
   intro j hj
   have e1 : a.drop j = [] := List.drop_of_length_le (by omega)
   have e2 : b.drop j = [] := List.drop_of_length_le (by omega)
   simp [e1, e2]
  | succ k ih =>
   intro j hj
   have hja : j < a.length := by omega
   have hjb : j < b.length := by omega
   rw [List.range'_succ, List.forIn_cons]
   simp only [Sem.run_bind, part_iv he hja, part_iv he hjb, Result.andThen_ok, run_equalIn_int w d e q q a[j] b[j] he]
   have hd : (a.drop j = b.drop j) ↔ (a[j] = b[j] ∧ a.drop (j + 1) = b.drop (j + 1)) := by
    rw [List.drop_eq_getElem_cons hja, List.drop_eq_getElem_cons hjb, List.cons.injEq]
   simp only [hd]
   by_cases hE : a[j] = b[j]
   ·have : (!(a[j] == b[j])) = false := by simp [hE]
    rw [this]
    simp only [Bool.false_eq_true, if_false, Sem.run_pure, Result.andThen_ok, ih (j + 1) (by omega), hE, true_and]
   ·have : (!(a[j] == b[j])) = true := by simp [hE]
    rw [this]
    simp [hE]
 have h0 := key n 0 (by omega)
 simp only [List.drop_zero] at h0
 rw [Op.equalIn]
 simp only [Sem.run_bind, run_underlying ht, Result.andThen_ok, run_sizeOf hs, Nat.mul_one, Std.Legacy.Range.forIn_eq_forIn_range', Std.Legacy.Range.size, Nat.sub_zero, Nat.add_one_sub_one, Nat.div_one]
 rw [h0]
 by_cases hE : a = b <;> simp [hE]
theorem eqGuard_ok {op : BinOp} {t : TypeId} {xs ys : Array Value} (hg : P.eqGuardType P.depth t = false) (x y : Operand) (w : World) : (eqGuard op t x y (.agg xs) (.agg ys)).run P w = .ok () w := by
 unfold eqGuard
 cases op <;> simp [hg]
theorem eqv_sound (h : R C σ) {q : IntKind} {n : Nat} {neq : Bool} {x y : V} {cx cy : Value} (hx : VR C x cx) (hy : VR C y cy) {t : TypeId} (ht : eqP P t = some (q, n)) {K : V → Prop} (hk : eqvK q n neq x y K) (ox oy : Operand) :
  Done C (fun v σ' => σ' = σ ∧ K v) ((do eqGuard (if neq then .neq else .eql) t ox oy cx cy; binOp (if neq then .neq else .eql) t cx cy : Sem Value).run P C.w) := by
 cases x <;> cases y <;> simp only [eqvK] at hk
 case agg.agg xs ys =>
  split at hk
  ·rename_i a b ha hb
   obtain ⟨hlx, hly, hk⟩ := hk
   obtain ⟨rfl, l1⟩ := agg_ints hx ha
   obtain ⟨rfl, l2⟩ := agg_ints hy hb
   unfold eqP at ht
   split at ht
   ·cases ht
   ·rename_i hg
    have hg' : P.eqGuardType P.depth t = false := by simpa using hg
    have heq : (Op.equal t (.agg (iv q a)) (.agg (iv q b))).run P C.w = .ok (decide (a = b)) C.w := by
     show (Op.equalIn (9998 + 2) t _ _).run P C.w = _
     split at ht
     ·rename_i fs hu
      split at ht
      ·rename_i q' hq
       split at ht
       ·rename_i hc
        simp only [Option.some.injEq, Prod.mk.injEq] at ht
        obtain ⟨rfl, rfl⟩ := ht
        exact equal_struct hu hc.2 hc.1 9998 (by omega) (by omega) _
       ·cases ht
      ·cases ht
     ·rename_i m e hu
      split at ht
      ·rename_i k' hk'
       split at ht
       ·rename_i hs
        simp only [Option.some.injEq, Prod.mk.injEq] at ht
        obtain ⟨rfl, rfl⟩ := ht
        exact equal_array hu hk' hs 9998 (by omega) (by omega) _
       ·cases ht
      ·cases ht
     ·cases ht
    simp only [Sem.run_bind, eqGuard_ok hg', Result.andThen_ok]
    cases neq with
    | true =>
     simp only [if_true, binOp, Sem.run_bind, heq, Result.andThen_ok, Sem.run_pure]
     exact Done.same h (.b _) ⟨rfl, hk⟩
    | false =>
     simp only [Bool.false_eq_true, if_false, binOp, Sem.run_bind, heq, Result.andThen_ok, Sem.run_pure]
     exact Done.same h (.b _) ⟨rfl, hk⟩
  ·exact hk.elim
 all_goals exact hk.elim
theorem eqb_sound (h : R C σ) {neq : Bool} {x y : V} {cx cy : Value} (hx : VR C x cx) (hy : VR C y cy) {t : TypeId} (ht : P.underlying t = some .bool) {K : V → Prop} (hk : eqbK neq x y K) (ox oy : Operand) :
  Done C (fun v σ' => σ' = σ ∧ K v) ((do eqGuard (if neq then .neq else .eql) t ox oy cx cy; binOp (if neq then .neq else .eql) t cx cy : Sem Value).run P C.w) := by
 cases x <;> cases y <;> simp only [eqbK] at hk
 case b.b a b =>
  obtain rfl := bool_inv hx
  obtain rfl := bool_inv hy
  have hg : ∀ op, (eqGuard op t ox oy (.bool a) (.bool b)).run P C.w = .ok () C.w := fun op => by unfold eqGuard; cases op <;> simp
  have heq : (Op.equal t (.bool a) (.bool b)).run P C.w = .ok (a == b) C.w := by
   show (Op.equalIn (9999 + 1) t _ _).run P C.w = _
   exact run_equalIn_bool' C.w 9999 t a b ht
  simp only [Sem.run_bind, hg, Result.andThen_ok]
  cases neq with
  | true =>
   simp only [if_true, binOp, Sem.run_bind, heq, Result.andThen_ok, Sem.run_pure]
   exact Done.same h (.b _) ⟨rfl, hk⟩
  | false =>
   simp only [Bool.false_eq_true, if_false, binOp, Sem.run_bind, heq, Result.andThen_ok, Sem.run_pure]
   exact Done.same h (.b _) ⟨rfl, hk⟩
 all_goals exact hk.elim
def kval (q : IntKind) (n : Nat) (ks : List Int) : Value := if n = 0 then .int q (ks.headD 0) else .agg (iv q ks)
def klen (n : Nat) (ks : List Int) : Prop := if n = 0 then ks.length = 1 else ks.length = n
theorem keyOf_sound {q : IntKind} {n : Nat} {k : V} {c : Value} (hv : VR C k c) {ks : List Int} (h : keyOf q n k = some ks) : c = kval q n ks ∧ klen n ks := by
 cases k <;> simp only [keyOf, reduceCtorEq] at h
 case agg cs =>
  split at h
  ·rename_i hc
   obtain ⟨rfl, hl⟩ := agg_ints hv h
   exact ⟨by simp [kval, hc.2], by simp [klen, hc.2]; omega⟩
  ·cases h
 case i k' a =>
  split at h
  ·rename_i hc
   obtain ⟨rfl, rfl⟩ := hc
   obtain rfl := int_inv hv
   cases h
   exact ⟨rfl, rfl⟩
  ·cases h
theorem key_cases {key : TypeId} {q : IntKind} {n : Nat} (h : keyP P key = some (q, n)) :
  (n = 0 ∧ P.underlying key = some (.int q)) ∨ (n ≠ 0 ∧ ∃ fs : Array Field, P.underlying key = some (.struct fs) ∧ fs.size = n ∧ intFields P q fs.toList 0 = true ∧ P.stoodInHeld key = false) := by
 unfold keyP at h
 split at h
 ·rename_i k hk
  simp only [Option.some.injEq, Prod.mk.injEq] at h
  obtain ⟨rfl, rfl⟩ := h
  exact .inl ⟨rfl, hk⟩
 ·rename_i fs hu
  split at h
  ·rename_i q' hq
   split at h
   ·rename_i hc
    simp only [Option.some.injEq, Prod.mk.injEq] at h
    obtain ⟨rfl, rfl⟩ := h
    refine .inr ⟨?_, fs, hu, rfl, hc.1, hc.2⟩
    intro h0
    have : fs.toList = [] := List.eq_nil_of_length_eq_zero (by simpa using h0)
    rw [this] at hq
    simp [firstKind] at hq
   ·cases h
  ·cases h
 ·cases h
theorem checkKey_d {key : TypeId} {q : IntKind} {n : Nat} (hk : keyP P key = some (q, n)) {ks : List Int} (hl : klen n ks) (em : Bool) (w : World) (d : Nat) : (Instr.checkKey em (d + 2) key (kval q n ks)).run P w = .ok () w := by
 rcases key_cases hk with ⟨rfl, hu⟩ | ⟨hn, fs, hu, hsz, hi, hst⟩
 ·simp [kval, Instr.checkKey, run_underlying hu]
 ·have hlen : ks.length = n := by simpa [klen, hn] using hl
  have hone : ∀ (t : TypeId) (a : Int), P.underlying t = some (.int q) → (Instr.checkKey em (d + 1) t (.int q a)).run P w = .ok () w := fun t a ht => by
   simp [Instr.checkKey, run_underlying ht]
  have key : ∀ (l : List Field) (j : Nat), intFields P q l j = true → j + l.length = n →
    ((forIn l PUnit.unit fun (f : Field) (r : PUnit) => do
     if f.name ≠ "_" then do
      let x ← part f.type (iv q ks) f.offset
      Instr.checkKey em (d + 1) f.type x
      pure (ForInStep.yield PUnit.unit)
     else pure (ForInStep.yield PUnit.unit) : Sem PUnit).run P w) = .ok PUnit.unit w := by
   intro l
   induction l with
   | nil => intro j _ _; simp
   | cons f l ih =>
    intro j h hj
    simp only [intFields, Bool.and_eq_true] at h
    obtain ⟨⟨⟨⟨h1, h2⟩, h3⟩, h4⟩, h5⟩ := h
    have ht : P.underlying f.type = some (.int q) := by
     split at h4
     ·rename_i k hk; rw [hk]; simp at h4; rw [h4]
     ·cases h4
    have hjl : j < ks.length := by simp at hj; omega
    have hoff : f.offset = j := by simpa using h2
    have hne : f.name ≠ "_" := by simpa using h1
    rw [List.forIn_cons]
    simp only [hne, ne_eq, not_false_eq_true, if_true, Sem.run_bind, hoff, part_iv ht hjl, Result.andThen_ok, hone f.type _ ht, Sem.run_pure]
    exact ih (j + 1) h5 (by simp at hj; omega)
  have h0 := key fs.toList 0 hi (by simp [hsz])
  simp only [kval, hn, if_false]
  rw [Instr.checkKey]
  simp only [Sem.run_bind, run_underlying hu, Result.andThen_ok, ← Array.forIn_toList]
  simp at h0 ⊢
  rw [h0]
  rfl
theorem checkKey_ok {key : TypeId} {q : IntKind} {n : Nat} (hk : keyP P key = some (q, n)) {ks : List Int} (hl : klen n ks) (em : Bool) (w : World) : (Instr.checkKey em 10000 key (kval q n ks)).run P w = .ok () w :=
 checkKey_d hk hl em w 9998
theorem find_sound {key : TypeId} {q : IntKind} {n : Nat} (hk : keyP P key = some (q, n)) {ks : List Int} (hl : klen n ks) (w : World) :
  ∀ (l : List (V × V)) (es : List MapEntry), es.length = l.length → (∀ (j : Nat) (k v : V) (e : MapEntry), l[j]? = some (k, v) → es[j]? = some e → VR C k e.key ∧ VR C v e.val) → keysOK q n l →
  (Instr.findKey key (kval q n ks) es).run P w = .ok ((idxM q n ks l).bind fun i => (es[i]?).map fun e => (i, e.val)) w ∧ findM q n ks l = (idxM q n ks l).bind fun i => (l[i]?).map (·.2) := by
 have step : ∀ (k v : V) (e : MapEntry) (ks' : List Int), VR C k e.key → keyOf q n k = some ks' → e.key = kval q n ks' ∧ klen n ks' := fun k v e ks' h1 h2 => keyOf_sound h1 h2
 have hM : ∀ (l : List (V × V)), findM q n ks l = (idxM q n ks l).bind fun i => (l[i]?).map (·.2) := by
  intro l
  induction l with
  | nil => rfl
  | cons x l ih =>
   obtain ⟨k, v⟩ := x
   simp only [findM, idxM]
   split
   ·simp
   ·rw [ih]; cases idxM q n ks l <;> simp
 intro l es hlen hv hok
 refine ⟨?_, hM l⟩
 rcases key_cases hk with ⟨rfl, hu⟩ | ⟨hn, fs, hu, hsz, hi, hst⟩
 ·have now : ∀ (l : List (V × V)) (es : List MapEntry) (i0 : Nat), es.length = l.length → (∀ (j : Nat) (k v : V) (e : MapEntry), l[j]? = some (k, v) → es[j]? = some e → VR C k e.key ∧ VR C v e.val) → keysOK q 0 l →
    Instr.findNow (.int q) (kval q 0 ks) es i0 = some ((idxM q 0 ks l).bind fun i => (es[i]?).map fun e => (i0 + i, e.val)) := by
   intro l
   induction l with
   | nil => intro es i0 hlen _ _; have : es = [] := List.eq_nil_of_length_eq_zero hlen; subst this; rfl
   | cons x l ih =>
    obtain ⟨k, v⟩ := x
    intro es i0 hlen hv hok
    cases es with
    | nil => simp at hlen
    | cons e es =>
     obtain ⟨ks', hks'⟩ := hok (k, v) (by simp)
     obtain ⟨he, hl'⟩ := keyOf_sound (hv 0 k v e rfl rfl).1 hks'
     have ih' := ih es (i0 + 1) (by simpa using hlen) (fun j k v e hj hk => hv (j + 1) k v e (by simpa using hj) (by simpa using hk)) (fun x hx => hok x (by simp [hx]))
     have hsn : Instr.sameNow (.int q) (kval q 0 ks) e.key = some (decide (ks = ks')) := by
      rw [he]
      simp only [kval, if_true, Instr.sameNow]
      rw [beq_dec]
      congr 1
      unfold klen at hl hl'
      simp only [if_true] at hl hl'
      match ks, ks', hl, hl' with
      | [a], [b], _, _ => simp
     simp only [Instr.findNow, hsn, idxM, hks', Option.some.injEq]
     by_cases hE : ks = ks'
     ·subst hE
      simp
     ·have hE' : ¬ ks' = ks := fun e => hE e.symm
      simp only [hE, hE', decide_false, if_false]
      rw [ih']
      cases idxM q 0 ks l with
      | none => rfl
      | some i => simp [Nat.add_assoc, Nat.add_comm 1 i]
  have h0 := now l es 0 hlen hv hok
  simp only [Nat.zero_add] at h0
  simp only [Instr.findKey, Sem.run_bind, run_underlying hu, Result.andThen_ok, h0, Sem.run_pure]
 ·have ask : ∀ (l : List (V × V)) (es : List MapEntry) (i0 : Nat), es.length = l.length → (∀ (j : Nat) (k v : V) (e : MapEntry), l[j]? = some (k, v) → es[j]? = some e → VR C k e.key ∧ VR C v e.val) → keysOK q n l →
    (Instr.findAsking key (kval q n ks) es i0).run P w = .ok ((idxM q n ks l).bind fun i => (es[i]?).map fun e => (i0 + i, e.val)) w := by
   intro l
   induction l with
   | nil => intro es i0 hlen _ _; have : es = [] := List.eq_nil_of_length_eq_zero hlen; subst this; simp [Instr.findAsking, idxM]
   | cons x l ih =>
    obtain ⟨k, v⟩ := x
    intro es i0 hlen hv hok
    cases es with
    | nil => simp at hlen
    | cons e es =>
     obtain ⟨ks', hks'⟩ := hok (k, v) (by simp)
     obtain ⟨he, hl'⟩ := keyOf_sound (hv 0 k v e rfl rfl).1 hks'
     have ih' := ih es (i0 + 1) (by simpa using hlen) (fun j k v e hj hk => hv (j + 1) k v e (by simpa using hj) (by simpa using hk)) (fun x hx => hok x (by simp [hx]))
     have hE1 : (Op.equal key (kval q n ks) e.key).run P w = .ok (decide (ks = ks')) w := by
      rw [he]
      simp only [kval, hn, if_false]
      show (Op.equalIn (9998 + 2) key _ _).run P w = _
      exact equal_struct hu hst hi 9998 (by simpa [klen, hn, hsz] using hl) (by simpa [klen, hn, hsz] using hl') w
     simp only [Instr.findAsking, Sem.run_bind, hE1, Result.andThen_ok, idxM, hks', Option.some.injEq]
     by_cases hE : ks = ks'
     ·subst hE
      simp
     ·have hE' : ¬ ks' = ks := fun e => hE e.symm
      simp only [hE, hE', decide_false, if_false, Bool.false_eq_true]
      rw [ih']
      cases idxM q n ks l with
      | none => rfl
      | some i => simp [Nat.add_assoc, Nat.add_comm 1 i]
  cases es with
  | nil =>
   have : l = [] := List.eq_nil_of_length_eq_zero hlen.symm
   subst this
   simp [Instr.findKey, run_underlying hu, Instr.findNow, idxM]
  | cons e es =>
   have hnone : Instr.findNow (.struct fs) (kval q n ks) (e :: es) 0 = none := by
    simp [Instr.findNow, Instr.sameNow]
   have h0 := ask l (e :: es) 0 hlen hv hok
   simp only [Nat.zero_add] at h0
   simp only [Instr.findKey, Sem.run_bind, run_underlying hu, Result.andThen_ok, hnone, h0]
end
end Go.Ab
end
section
namespace Go.Ab
open Go
section
variable {P : Program} {C : Cx} {σ : List O}
theorem idxM_lt {q : IntKind} {n : Nat} {ks : List Int} : ∀ {l : List (V × V)} {i : Nat}, idxM q n ks l = some i → i < l.length
 | [], i, h => by simp [idxM] at h
 | (k, v) :: l, i, h => by
  simp only [idxM] at h
  split at h
  ·cases h; simp
  ·simp only [Option.map_eq_some_iff] at h
   obtain ⟨j, hj, rfl⟩ := h
   have := idxM_lt hj
   simp; omega
theorem idxM_key {q : IntKind} {n : Nat} {ks : List Int} : ∀ {l : List (V × V)} {i : Nat}, idxM q n ks l = some i → ∃ e, l[i]? = some e ∧ keyOf q n e.1 = some ks
 | [], i, h => by simp [idxM] at h
 | (k, v) :: l, i, h => by
  simp only [idxM] at h
  split at h
  ·rename_i hk; cases h; exact ⟨(k, v), rfl, hk⟩
  ·simp only [Option.map_eq_some_iff] at h
   obtain ⟨j, hj, rfl⟩ := h
   obtain ⟨e, h1, h2⟩ := idxM_key hj
   exact ⟨e, by simpa using h1, h2⟩
theorem pair_of {l : List (V × V)} {ces : Array MapEntry} (hl : ces.size = l.length) (hk : ∀ (j : Nat) (k v : V) (e : MapEntry), l[j]? = some (k, v) → ces[j]? = some e → VR C k e.key)
  (hv : ∀ (j : Nat) (k v : V) (e : MapEntry), l[j]? = some (k, v) → ces[j]? = some e → VR C v e.val) :
  ces.toList.length = l.length ∧ ∀ (j : Nat) (k v : V) (e : MapEntry), l[j]? = some (k, v) → ces.toList[j]? = some e → VR C k e.key ∧ VR C v e.val :=
 ⟨by simpa using hl, fun j k v e h1 h2 => ⟨hk j k v e h1 (by simpa using h2), hv j k v e h1 (by simpa using h2)⟩⟩
theorem lkp_sound (h : R C σ) {q : IntKind} {n : Nat} {zv : V} {ok : Bool} {x k : V} {cx ck : Value} (hx : VR C x cx) (hkv : VR C k ck) {t key elem : TypeId} (ht : P.underlying t = some (.map key elem)) (hkey : keyP P key = some (q, n))
  (hz : zcP P elem = some [zv]) (hz1 : aggP P elem = some false ∨ True) (hzo : ∀ (z : Value), z.cells.size = 1 → (∃ i, P.info? elem = some i ∧ i.zero = some z) → z.oneCell' = true)
  {K : V → Prop} (hk : lkpK q n zv ok x k σ K) : Done C (fun v σ' => σ' = σ ∧ K v) ((Instr.lookup t cx ck ok).run P C.w) := by
 obtain ⟨z, hzr, hza, hzb, hzc, hzi⟩ := zcP_sound hz C
 have hz1' : z.oneCell' = true := hzo z (by simpa using hza) hzi
 have hzcells : z.cells = #[z] := by cases z <;> first | rfl | (simp [Value.oneCell'] at hz1')
 have hzv : VR C zv z := hzc 0 zv z rfl (by rw [hzcells]; rfl)
 unfold lkpK at hk
 split at hk
 ·rename_i ks hks
  obtain ⟨rfl, hl⟩ := keyOf_sound hkv hks
  have fin : ∀ (blk clock : Nat) (es : Array MapEntry) (l : List (V × V)), C.w.heap[blk]? = some (.map es clock) → es.size = l.length → (∀ (j : Nat) (k v : V) (e : MapEntry), l[j]? = some (k, v) → es[j]? = some e → VR C k e.key) →
    (∀ (j : Nat) (k v : V) (e : MapEntry), l[j]? = some (k, v) → es[j]? = some e → VR C v e.val) → lkpF q n zv ok ks l K →
    Done C (fun v σ' => σ' = σ ∧ K v) ((Instr.lookup t (.map (some blk)) (kval q n ks) ok).run P C.w) := by
   intro blk clock es l hb hsz h1 h2 hF
   obtain ⟨hok, hm⟩ := hF
   obtain ⟨p1, p2⟩ := pair_of hsz h1 h2
   obtain ⟨hf, hM⟩ := find_sound hkey hl C.w l es.toList p1 p2 hok
   have hg : (getObj blk).run P C.w = .ok (.map es clock) C.w := by simp [getObj, Sem.run, hb]
   have hck := checkKey_ok hkey hl es.isEmpty C.w
   rw [hM] at hm
   cases hi : idxM q n ks l with
   | none =>
    rw [hi] at hm hf
    simp only [Option.bind_none] at hm hf
    have : (Instr.lookup t (.map (some blk)) (kval q n ks) ok).run P C.w = .ok (if ok then .tuple #[z, .bool false] else z) C.w := by
     simp only [Instr.lookup, Sem.run_bind, run_underlying ht, Result.andThen_ok, hg, Sem.run_pure, hck, hf, hzr]
    rw [this]
    cases ok with
    | true =>
     simp only [if_true] at hm ⊢
     exact Done.same h (.tup _ #[z, .bool false] rfl (fun j x c hx hc => by
      match j with
      | 0 => simp at hx hc; subst hx; subst hc; exact hzv
      | 1 => simp at hx hc; subst hx; subst hc; exact .b _
      | j + 2 => simp at hx)) ⟨rfl, hm⟩
    | false =>
     simp only [Bool.false_eq_true, if_false] at hm ⊢
     exact Done.same h hzv ⟨rfl, hm⟩
   | some i =>
    rw [hi] at hm hf
    have hlt := idxM_lt hi
    have hlt' : i < es.toList.length := by omega
    simp only [Option.bind_some, List.getElem?_eq_getElem hlt, List.getElem?_eq_getElem hlt', Option.map_some] at hm hf
    have hvv : VR C l[i].2 (es.toList[i]).val := (p2 i l[i].1 l[i].2 (es.toList[i]) (by rw [List.getElem?_eq_getElem hlt]) (List.getElem?_eq_getElem hlt')).2
    obtain ⟨u, hu⟩ : ∃ u, (es.toList[i]).val = u := ⟨_, rfl⟩
    rw [hu] at hf hvv
    have : (Instr.lookup t (.map (some blk)) (kval q n ks) ok).run P C.w = .ok (if ok then .tuple #[u, .bool true] else u) C.w := by
     simp only [Instr.lookup, Sem.run_bind, run_underlying ht, Result.andThen_ok, hg, Sem.run_pure, hck, hf]
    rw [this]
    cases ok with
    | true =>
     simp only [if_true] at hm ⊢
     exact Done.same h (.tup _ #[u, .bool true] rfl (fun j x c hx hc => by
      match j with
      | 0 => simp at hx hc; subst hx; subst hc; exact hvv
      | 1 => simp at hx hc; subst hx; subst hc; exact .b _
      | j + 2 => simp at hx)) ⟨rfl, hm⟩
    | false =>
     simp only [Bool.false_eq_true, if_false] at hm ⊢
     exact Done.same h hvv ⟨rfl, hm⟩
  cases x <;> simp only at hk
  case sm l =>
   cases hx with
   | sm _ blk es clock hz hb hl' h1 h2 => exact fin blk clock es l hb hl' h1 h2 hk
  case m id =>
   split at hk
   ·rename_i es clock ho
    obtain ⟨blk, bs, ces, rfl, hρ, hb, hl', hv⟩ := map_inv_live h ho hx
    refine fin blk clock ces (es.map (·.2)) hb (by simpa using hl') (fun j k v e hj he => ?_) (fun j k v e hj he => ?_) hk
    ·rw [List.getElem?_map, Option.map_eq_some_iff] at hj
     obtain ⟨⟨b, k', v'⟩, hj, hE⟩ := hj
     cases hE
     exact (hv j b k v e hj he).2.1
    ·rw [List.getElem?_map, Option.map_eq_some_iff] at hj
     obtain ⟨⟨b, k', v'⟩, hj, hE⟩ := hj
     cases hE
     exact (hv j b k v e hj he).2.2
   ·exact hk.elim
  case nm =>
   cases hx with
   | nm =>
    have hf : (Instr.findKey key (kval q n ks) (#[] : Array MapEntry).toList).run P C.w = .ok none C.w := by
     have := (find_sound (C := C) hkey hl C.w [] [] rfl (by simp) (by simp [keysOK])).1
     simpa [idxM] using this
    have : (Instr.lookup t (.map none) (kval q n ks) ok).run P C.w = .ok (if ok then .tuple #[z, .bool false] else z) C.w := by
     simp only [Instr.lookup, Sem.run_bind, run_underlying ht, Result.andThen_ok, Sem.run_pure, checkKey_ok hkey hl, hf, hzr]
    rw [this]
    cases ok with
    | true =>
     simp only [if_true] at hk ⊢
     exact Done.same h (.tup _ #[z, .bool false] rfl (fun j x c hx hc => by
      match j with
      | 0 => simp at hx hc; subst hx; subst hc; exact hzv
      | 1 => simp at hx hc; subst hx; subst hc; exact .b _
      | j + 2 => simp at hx)) ⟨rfl, hk⟩
    | false =>
     simp only [Bool.false_eq_true, if_false] at hk ⊢
     exact Done.same h hzv ⟨rfl, hk⟩
  all_goals exact hk.elim
 ·exact hk.elim
theorem turn_map (h : R C σ) {id blk bs : Nat} {es es' : List (Nat × V × V)} {clock clock' : Nat} {ces ces' : Array MapEntry} (ho : σ[id]? = some (.map es clock)) (hρ : C.ρ[id]? = some (blk, bs))
  (hb : C.w.heap[blk]? = some (.map ces clock)) (hl : ces'.size = es'.length)
  (hv : ∀ (j b : Nat) (k v : V) (e : MapEntry), es'[j]? = some (b, k, v) → ces'[j]? = some e → e.born = b ∧ VR C k e.key ∧ VR C v e.val) :
  R (C.turn id blk bs 0 (C.w.putObj blk (.map ces' clock'))) (σ.set id (.map es' clock')) ∧ Ext C (C.turn id blk bs 0 (C.w.putObj blk (.map ces' clock'))) := by
 have hlt : blk < C.w.heap.size := (Array.getElem?_eq_some_iff.1 hb).1
 exact h.turn (o' := .map es' clock') ho hρ (.inl ⟨rfl, rfl⟩) rfl rfl rfl (by simp) (fun b _ hne => World.putObj_heap_other hne) (fun cc t hc => by rw [hb] at hc; cases hc)
  (fun e => .map es' clock' ces' (World.putObj_heap_same hlt) hl (fun j b k v en h1 h2 => let ⟨x, y, z⟩ := hv j b k v en h1 h2; ⟨x, y.ext e h.wf, z.ext e h.wf⟩))
theorem sameBits_kval (q : IntKind) (n : Nat) (ks : List Int) (d : Nat) : Instr.sameBits (d + 2) (kval q n ks) (kval q n ks) = true := by
 unfold kval
 split
 ·simp [Instr.sameBits]
 ·simp only [Instr.sameBits, iv, beq_self_eq_true, Bool.true_and, List.all_eq_true]
  intro p hp
  obtain ⟨a, b⟩ := p
  have : a = b ∧ ∃ n, a = .int q n := by
   obtain ⟨j, hj⟩ := List.mem_iff_getElem?.1 hp
   rw [List.getElem?_zip_eq_some] at hj
   simp only [List.getElem?_map, Option.map_eq_some_iff] at hj
   obtain ⟨⟨x, hx, rfl⟩, y, hy, rfl⟩ := hj
   rw [hx] at hy; cases hy
   exact ⟨rfl, x, rfl⟩
  obtain ⟨rfl, m, rfl⟩ := this
  simp [Instr.sameBits]
theorem vals_of {es : List (Nat × V × V)} {ces : Array MapEntry} (hl : ces.size = es.length)
  (hv : ∀ (j b : Nat) (k v : V) (e : MapEntry), es[j]? = some (b, k, v) → ces[j]? = some e → e.born = b ∧ VR C k e.key ∧ VR C v e.val) :
  ces.toList.length = (es.map (·.2)).length ∧ ∀ (j : Nat) (k v : V) (e : MapEntry), (es.map (·.2))[j]? = some (k, v) → ces.toList[j]? = some e → VR C k e.key ∧ VR C v e.val := by
 refine ⟨by simpa using hl, fun j k v e hj he => ?_⟩
 rw [List.getElem?_map, Option.map_eq_some_iff] at hj
 obtain ⟨⟨b, k', v'⟩, hj, hE⟩ := hj
 cases hE
 exact (hv j b k v e hj (by simpa using he)).2
theorem mset_sound (h : R C σ) {q : IntKind} {n : Nat} {x k v : V} {cx ck cv : Value} (hx : VR C x cx) (hkv : VR C k ck) (hvv : VR C v cv) {t key elem : TypeId} (ht : P.underlying t = some (.map key elem)) (hkey : keyP P key = some (q, n))
  {K : V → List O → Prop} (hk : msetK q n x k v σ K) : DoneU C K ((Instr.mapUpdate t cx ck cv).run P C.w) := by
 unfold msetK at hk
 split at hk
 ·rename_i ks id hks
  split at hk
  ·rename_i es clock ho
   obtain ⟨hok, hk⟩ := hk
   obtain ⟨blk, bs, ces, rfl, hρ, hb, hl, hv⟩ := map_inv_live h ho hx
   obtain ⟨rfl, hkl⟩ := keyOf_sound hkv hks
   obtain ⟨p1, p2⟩ := vals_of hl hv
   obtain ⟨hf, -⟩ := find_sound hkey hkl C.w _ _ p1 p2 hok
   have hg : (getObj blk).run P C.w = .ok (.map ces clock) C.w := by simp [getObj, Sem.run, hb]
   have hset : ∀ o, (setObj blk o).run P C.w = .ok () (C.w.putObj blk o) := fun o => by simp [setObj, Sem.run, hb, World.putObj]
   have hck := checkKey_ok hkey hkl false C.w
   split at hk
   ·rename_i i hi
    have hlt := idxM_lt hi
    have hlt' : i < ces.size := by simp at hlt; omega
    obtain ⟨en, hen, hek⟩ := idxM_key hi
    rw [List.getElem?_map, Option.map_eq_some_iff] at hen
    obtain ⟨⟨b0, k0, v0⟩, hen, hE⟩ := hen
    cases hE
    have hold := hv i b0 k0 v0 ces[i] hen (Array.getElem?_eq_getElem hlt')
    have hkeq : ces[i].key = kval q n ks := (keyOf_sound hold.2.1 hek).1
    simp only [Option.bind_some, Array.getElem?_toList, Array.getElem?_eq_getElem hlt', Option.map_some, hi] at hf
    have hst : (Instr.keyThatStays ces[i].key (kval q n ks)).run P C.w = .ok (kval q n ks) C.w := by
     rw [hkeq]
     have : Instr.sameBits 10000 (kval q n ks) (kval q n ks) = true := sameBits_kval q n ks 9998
     simp [Instr.keyThatStays, this]
    have hrun : (Instr.mapUpdate t (.map (some blk)) (kval q n ks) cv).run P C.w = .ok () (C.w.putObj blk (.map (ces.modify i fun e => { e with key := kval q n ks, val := cv }) clock)) := by
     simp only [Instr.mapUpdate, Sem.run_bind, run_underlying ht, Result.andThen_ok, hg, hck, hf, Array.getElem?_eq_getElem hlt', Option.map_some, Option.getD_some, hst, hset]
    rw [hrun]
    obtain ⟨r1, r2⟩ := turn_map h ho hρ hb (ces' := ces.modify i fun e => { e with key := kval q n ks, val := cv }) (es' := es.modify i fun e => (e.1, k, v)) (clock' := clock) (by simpa using hl)
     (fun j b k' v' e hj he => by
      rw [Array.getElem?_modify] at he
      rw [List.getElem?_modify] at hj
      by_cases hij : i = j
      ·subst hij
       simp only [if_true, hen, Array.getElem?_eq_getElem hlt', Option.map_some, Option.some.injEq] at hj he
       simp only [Option.map_eq_map, Option.map_some, Option.some.injEq, Prod.mk.injEq] at hj
       obtain ⟨rfl, rfl, rfl⟩ := hj
       subst he
       exact ⟨hold.1, hkv, hvv⟩
      ·simp only [hij, if_false] at hj he
       simp only [id_eq, Option.map_eq_map, Option.map_id'] at hj he
       exact hv j b k' v' e (by simpa using hj) he)
    exact ⟨_, _, rfl, r1, r2, hk⟩
   ·rename_i hi
    rw [hi] at hf
    simp only [Option.bind_none] at hf
    have hrun : (Instr.mapUpdate t (.map (some blk)) (kval q n ks) cv).run P C.w = .ok () (C.w.putObj blk (.map (ces.push { key := kval q n ks, val := cv, born := clock }) (clock + 1))) := by
     simp only [Instr.mapUpdate, Sem.run_bind, run_underlying ht, Result.andThen_ok, hg, hck, hf, hset]
    rw [hrun]
    obtain ⟨r1, r2⟩ := turn_map h ho hρ hb (ces' := ces.push { key := kval q n ks, val := cv, born := clock }) (es' := es ++ [(clock, k, v)]) (clock' := clock + 1) (by simp [hl])
     (fun j b k' v' e hj he => by
      rw [Array.getElem?_push] at he
      rcases get_snoc_cases hj with hj | ⟨rfl, hE⟩
      ·have := (List.getElem?_eq_some_iff.1 hj).1
       rw [if_neg (by omega)] at he
       exact hv j b k' v' e hj he
      ·cases hE
       rw [if_pos hl.symm] at he
       cases he
       exact ⟨rfl, hkv, hvv⟩)
    exact ⟨_, _, rfl, r1, r2, hk⟩
  ·exact hk.elim
 ·exact hk.elim
theorem sidx_sound (h : R C σ) {x i : V} {cx ci : Value} (hx : VR C x cx) (hi : VR C i ci) {t : TypeId} (ht : P.underlying t = some .string) {K : V → Prop} (hk : sidxK x i K) :
  Done C (fun v σ' => σ' = σ ∧ K v) ((Instr.index t cx ci).run P C.w) := by
 unfold sidxK at hk
 split at hk
 ·rename_i s k j
  obtain ⟨h0, hk⟩ := hk
  cases hx
  cases hi
  split at hk
  ·rename_i b hb
   have hrun : (Instr.index t (.string s) (.int k j)).run P C.w = .ok (.int .u8 b.toNat) C.w := by
    simp [Instr.index, asIntOf, run_underlying ht, Result.andThen, h0, hb]
   rw [hrun]
   exact Done.same h (.i _ _) ⟨rfl, hk⟩
  ·exact hk.elim
 ·exact hk.elim
theorem snil_sound (h : R C σ) {neq : Bool} {x : V} {cx : Value} (hx : VR C x cx) {t e : TypeId} (ht : P.underlying t = some (.slice e)) {K : V → Prop} (hk : snilK neq x K) (ox oy : Operand) :
  Done C (fun v σ' => σ' = σ ∧ K v) ((do eqGuard (if neq then .neq else .eql) t ox oy cx (.slice none 0 0); binOp (if neq then .neq else .eql) t cx (.slice none 0 0) : Sem Value).run P C.w) := by
 unfold snilK at hk
 split at hk
 ·rename_i cells n full
  obtain ⟨h0, hk⟩ := hk
  have key : ∀ blk base cap, (Op.equal t (.slice (some ⟨blk, base, none⟩) n cap) (.slice none 0 0)).run P C.w = .ok false C.w := by
   intro blk base cap
   have gen : ∀ d, (Op.equalIn (d + 1) t (.slice (some ⟨blk, base, none⟩) n cap) (.slice none 0 0)).run P C.w = .ok false C.w := by
    intro d
    simp only [Op.equalIn, Sem.run_bind, run_underlying ht, Result.andThen_ok, Sem.run_pure]
   exact gen 9999
  have eg : ∀ op blk base cap, (eqGuard op t ox oy (.slice (some ⟨blk, base, none⟩) n cap) (.slice none 0 0)).run P C.w = .ok () C.w := by
   intro op blk base cap
   unfold eqGuard
   split <;> rfl
  cases hx with
  | ss0 => exact absurd rfl h0
  | ssn => exact absurd rfl h0
  | ss _ _ _ blk base cap cs hz hl h1 hc hv hlc hf =>
   cases neq with
   | true =>
    have hrun : ((do eqGuard .neq t ox oy (.slice (some ⟨blk, base, none⟩) n cap) (.slice none 0 0); binOp .neq t (.slice (some ⟨blk, base, none⟩) n cap) (.slice none 0 0) : Sem Value).run P C.w) = .ok (.bool true) C.w := by
     simp only [Sem.run_bind, eg, Result.andThen_ok, binOp, key, Sem.run_pure]
     rfl
    simp only [if_true]
    rw [hrun]
    exact Done.same h (.b _) ⟨rfl, hk⟩
   | false =>
    have hrun : ((do eqGuard .eql t ox oy (.slice (some ⟨blk, base, none⟩) n cap) (.slice none 0 0); binOp .eql t (.slice (some ⟨blk, base, none⟩) n cap) (.slice none 0 0) : Sem Value).run P C.w) = .ok (.bool false) C.w := by
     simp only [Sem.run_bind, eg, Result.andThen_ok, binOp, key, Sem.run_pure]
    simp only [Bool.false_eq_true, if_false]
    rw [hrun]
    exact Done.same h (.b _) ⟨rfl, hk⟩
 ·exact hk.elim
theorem list_set_same {α : Type} : ∀ {l : List α} {j : Nat} {a : α}, l[j]? = some a → l.set j a = l
 | [], _, _, h => by cases h
 | b :: r, 0, a, h => by simp at h; subst h; rfl
 | b :: r, j + 1, a, h => by rw [List.set_cons_succ, list_set_same (by simpa using h)]
theorem ment_sound (h : R C σ) {q : IntKind} {n : Nat} {zv : V} {x k : V} {cx ck : Value} (hx : VR C x cx) (hkv : VR C k ck) {t key elem : TypeId} (ht : P.underlying t = some (.map key elem)) (hkey : keyP P key = some (q, n))
  (hz : zcP P elem = some [zv]) (hzo : ∀ (z : Value), z.cells.size = 1 → (∃ i, P.info? elem = some i ∧ i.zero = some z) → z.oneCell' = true)
  {K : V → List O → Prop} (hk : mentK q n zv x k σ K) : Done C K ((Instr.mapEntry t cx ck).run P C.w) := by
 obtain ⟨z, hzr, hza, hzb, hzc, hzi⟩ := zcP_sound hz C
 have hz1' : z.oneCell' = true := hzo z (by simpa using hza) hzi
 have hzcells : z.cells = #[z] := by cases z <;> first | rfl | (simp [Value.oneCell'] at hz1')
 have hzv : VR C zv z := hzc 0 zv z rfl (by rw [hzcells]; rfl)
 unfold mentK at hk
 split at hk
 ·rename_i ks id hks
  split at hk
  ·rename_i es clock ho
   obtain ⟨hok, hk⟩ := hk
   obtain ⟨blk, bs, ces, rfl, hρ, hb, hl, hv⟩ := map_inv_live h ho hx
   obtain ⟨rfl, hkl⟩ := keyOf_sound hkv hks
   obtain ⟨p1, p2⟩ := vals_of hl hv
   obtain ⟨hf, -⟩ := find_sound hkey hkl C.w _ _ p1 p2 hok
   have hg : (getObj blk).run P C.w = .ok (.map ces clock) C.w := by simp [getObj, Sem.run, hb]
   have hset : ∀ o, (setObj blk o).run P C.w = .ok () (C.w.putObj blk o) := fun o => by simp [setObj, Sem.run, hb, World.putObj]
   have hck := checkKey_ok hkey hkl false C.w
   split at hk
   ·rename_i i hi
    have hlt := idxM_lt hi
    have hlt' : i < ces.size := by simp at hlt; omega
    obtain ⟨en, hen, hek⟩ := idxM_key hi
    rw [List.getElem?_map, Option.map_eq_some_iff] at hen
    obtain ⟨⟨b0, k0, v0⟩, hen, hE⟩ := hen
    cases hE
    rw [hen] at hk
    have hold := hv i b0 k0 v0 ces[i] hen (Array.getElem?_eq_getElem hlt')
    have hkeq : ces[i].key = kval q n ks := (keyOf_sound hold.2.1 hek).1
    simp only [Option.bind_some, Array.getElem?_toList, Array.getElem?_eq_getElem hlt', Option.map_some, hi] at hf
    have hst : (Instr.keyThatStays ces[i].key (kval q n ks)).run P C.w = .ok (kval q n ks) C.w := by
     rw [hkeq]
     have : Instr.sameBits 10000 (kval q n ks) (kval q n ks) = true := sameBits_kval q n ks 9998
     simp [Instr.keyThatStays, this]
    have hrun : (Instr.mapEntry t (.map (some blk)) (kval q n ks)).run P C.w = .ok (.tuple #[ces[i].val, goInt ces[i].born]) (C.w.putObj blk (.map (ces.modify i fun e => { e with key := kval q n ks }) clock)) := by
     simp only [Instr.mapEntry, Sem.run_bind, run_underlying ht, Result.andThen_ok, hg, hck, hf, Array.getElem?_eq_getElem hlt', Option.map_some, Option.getD_some, hst, hset, Sem.run_pure]
    rw [hrun]
    obtain ⟨r1, r2⟩ := turn_map h ho hρ hb (ces' := ces.modify i fun e => { e with key := kval q n ks }) (es' := es) (clock' := clock) (by simpa using hl)
     (fun j b k' v' e hj he => by
      rw [Array.getElem?_modify] at he
      by_cases hij : i = j
      ·subst hij
       simp only [if_true, Array.getElem?_eq_getElem hlt', Option.map_some, Option.some.injEq] at he
       rw [hen] at hj
       cases hj
       subst he
       refine ⟨hold.1, ?_, hold.2.2⟩
       have := hold.2.1
       rw [hkeq] at this
       exact this
      ·simp only [hij, if_false] at he
       exact hv j b k' v' e hj he)
    rw [list_set_same ho] at r1
    refine ⟨_, _, _, _, rfl, r1, r2, .tup _ #[ces[i].val, goInt ces[i].born] rfl (fun j x c hx hc => ?_), hk⟩
    match j with
    | 0 => simp at hx hc; subst hx; subst hc; exact hold.2.2.ext r2 h.wf
    | 1 =>
     simp at hx hc; subst hx; subst hc
     rw [hold.1]
     exact .i _ _
    | j + 2 => simp at hx
   ·rename_i hi
    rw [hi] at hf
    simp only [Option.bind_none] at hf
    have hrun : (Instr.mapEntry t (.map (some blk)) (kval q n ks)).run P C.w = .ok (.tuple #[z, goInt clock]) (C.w.putObj blk (.map (ces.push { key := kval q n ks, val := z, born := clock }) (clock + 1))) := by
     simp only [Instr.mapEntry, Sem.run_bind, run_underlying ht, Result.andThen_ok, hg, hck, hf, hset, hzr, Sem.run_pure]
    rw [hrun]
    obtain ⟨r1, r2⟩ := turn_map h ho hρ hb (ces' := ces.push { key := kval q n ks, val := z, born := clock }) (es' := es ++ [(clock, k, zv)]) (clock' := clock + 1) (by simp [hl])
     (fun j b k' v' e hj he => by
      rw [Array.getElem?_push] at he
      rcases get_snoc_cases hj with hj | ⟨rfl, hE⟩
      ·have := (List.getElem?_eq_some_iff.1 hj).1
       rw [if_neg (by omega)] at he
       exact hv j b k' v' e hj he
      ·cases hE
       rw [if_pos hl.symm] at he
       cases he
       exact ⟨rfl, hkv, hzv⟩)
    refine ⟨_, _, _, _, rfl, r1, r2, .tup _ #[z, goInt clock] rfl (fun j x c hx hc => ?_), hk⟩
    match j with
    | 0 => simp at hx hc; subst hx; subst hc; exact hzv.ext r2 h.wf
    | 1 => simp at hx hc; subst hx; subst hc; exact .i _ _
    | j + 2 => simp at hx
  ·exact hk.elim
 ·exact hk.elim
theorem findIdx_born {es : List (Nat × V × V)} : ∀ {ces : List MapEntry} {b : Int}, ces.length = es.length → (∀ (j : Nat) (e : Nat × V × V) (c : MapEntry), es[j]? = some e → ces[j]? = some c → c.born = e.1) →
  ces.findIdx? (fun e => (e.born : Int) == b) = es.findIdx? (fun e => ((e.1 : Nat) : Int) == b) := by
 induction es with
 | nil => intro ces b hl _; rw [List.eq_nil_of_length_eq_zero hl]; rfl
 | cons x es ih =>
  intro ces b hl hb
  match ces, hl with
  | c :: ces, hl =>
   have h0 := hb 0 x c rfl rfl
   rw [List.findIdx?_cons, List.findIdx?_cons, h0, ih (by simpa using hl) (fun j e c h1 h2 => hb (j + 1) e c (by simpa using h1) (by simpa using h2))]
theorem mest_sound (h : R C σ) {x s v : V} {cx cs cv : Value} (hx : VR C x cx) (hs : VR C s cs) (hvv : VR C v cv) {t : TypeId}
  {K : V → List O → Prop} (hk : mestK x s v σ K) : DoneU C K ((Instr.entryStore t cx cs cv).run P C.w) := by
 unfold mestK at hk
 split at hk
 ·rename_i id b
  split at hk
  ·rename_i es clock ho
   obtain ⟨blk, bs, ces, rfl, hρ, hb, hl, hv⟩ := map_inv_live h ho hx
   cases hs
   have hg : (getObj blk).run P C.w = .ok (.map ces clock) C.w := by simp [getObj, Sem.run, hb]
   have hset : ∀ o, (setObj blk o).run P C.w = .ok () (C.w.putObj blk o) := fun o => by simp [setObj, Sem.run, hb, World.putObj]
   have hfi : ces.findIdx? (fun e => (e.born : Int) == b) = es.findIdx? (fun e => ((e.1 : Nat) : Int) == b) := by
    have : ces.findIdx? (fun e => (e.born : Int) == b) = ces.toList.findIdx? (fun e => (e.born : Int) == b) := by cases ces; simp
    rw [this]
    refine findIdx_born (by simpa using hl) (fun j e c h1 h2 => ?_)
    obtain ⟨b', k', v'⟩ := e
    exact (hv j b' k' v' c h1 (by simpa using h2)).1
   split at hk
   ·rename_i i hi
    have hlt : i < es.length := by
     have := List.findIdx?_eq_some_iff_getElem.1 hi
     exact this.1
    have hlt' : i < ces.size := by omega
    have hrun : (Instr.entryStore t (.map (some blk)) (.int .i64 b) cv).run P C.w = .ok () (C.w.putObj blk (.map (ces.modify i fun e => { e with val := cv }) clock)) := by
     simp only [Instr.entryStore, Sem.run_bind, Result.andThen_ok, hg, asInt, asIntOf, Sem.run_pure, hfi, hi, hset]
    rw [hrun]
    have hen : es[i]? = some es[i] := List.getElem?_eq_getElem hlt
    have hold := hv i es[i].1 es[i].2.1 es[i].2.2 ces[i] hen (Array.getElem?_eq_getElem hlt')
    obtain ⟨r1, r2⟩ := turn_map h ho hρ hb (ces' := ces.modify i fun e => { e with val := cv }) (es' := es.modify i fun e => (e.1, e.2.1, v)) (clock' := clock) (by simpa using hl)
     (fun j b k' v' e hj he => by
      rw [Array.getElem?_modify] at he
      rw [List.getElem?_modify] at hj
      by_cases hij : i = j
      ·subst hij
       simp only [if_true, hen, Array.getElem?_eq_getElem hlt', Option.map_some, Option.some.injEq] at hj he
       simp only [Option.map_eq_map, Option.map_some, Option.some.injEq, Prod.mk.injEq] at hj
       obtain ⟨rfl, rfl, rfl⟩ := hj
       subst he
       exact ⟨hold.1, hold.2.1, hvv⟩
      ·simp only [hij, if_false] at hj he
       simp only [id_eq, Option.map_eq_map, Option.map_id'] at hj he
       exact hv j b k' v' e (by simpa using hj) he)
    exact ⟨_, _, rfl, r1, r2, hk⟩
   ·exact hk.elim
  ·exact hk.elim
 ·exact hk.elim
theorem mdel_sound (h : R C σ) {q : IntKind} {n : Nat} {x k : V} {cx ck : Value} (hx : VR C x cx) (hkv : VR C k ck) {t tk key elem ty : TypeId} (ht : P.underlying t = some (.map key elem)) (hkey : keyP P key = some (q, n))
  {K : V → List O → Prop} (hk : mdelK q n x k σ K) : Done C K ((Builtin.delete_ #[t, tk] ty #[cx, ck]).run P C.w) := by
 unfold mdelK at hk
 split at hk
 ·rename_i ks id hks
  split at hk
  ·rename_i es clock ho
   obtain ⟨hok, hk⟩ := hk
   obtain ⟨blk, bs, ces, rfl, hρ, hb, hl, hv⟩ := map_inv_live h ho hx
   obtain ⟨rfl, hkl⟩ := keyOf_sound hkv hks
   obtain ⟨p1, p2⟩ := vals_of hl hv
   obtain ⟨hf, -⟩ := find_sound hkey hkl C.w _ _ p1 p2 hok
   have hg : (getObj blk).run P C.w = .ok (.map ces clock) C.w := by simp [getObj, Sem.run, hb]
   have hset : ∀ o, (setObj blk o).run P C.w = .ok () (C.w.putObj blk o) := fun o => by simp [setObj, Sem.run, hb, World.putObj]
   have hck := checkKey_ok hkey hkl ces.isEmpty C.w
   split at hk
   ·rename_i i hi
    have hlt := idxM_lt hi
    have hlt' : i < ces.size := by simp at hlt; omega
    simp only [hi, Option.bind_some, Array.getElem?_toList, Array.getElem?_eq_getElem hlt', Option.map_some] at hf
    have hrun : (Builtin.delete_ #[t, tk] ty #[.map (some blk), kval q n ks]).run P C.w = .ok (.tuple #[]) (C.w.putObj blk (.map (ces.eraseIdxIfInBounds i) clock)) := by
     simp [Builtin.delete_, run_underlying ht, hg, hck, hf, hset]
    rw [hrun]
    have he0 : ces.eraseIdxIfInBounds i = ces.eraseIdx i hlt' := by simp [Array.eraseIdxIfInBounds, hlt']
    obtain ⟨r1, r2⟩ := turn_map h ho hρ hb (ces' := ces.eraseIdxIfInBounds i) (es' := es.eraseIdx i) (clock' := clock) (by rw [he0]; simp [List.length_eraseIdx, hl]; simp at hlt; omega)
     (fun j b k' v' e hj he => by
      rw [he0, Array.getElem?_eraseIdx] at he
      rw [List.getElem?_eraseIdx] at hj
      split at hj
      ·rename_i hji; rw [if_pos hji] at he; exact hv j b k' v' e hj he
      ·rename_i hji; rw [if_neg hji] at he; exact hv (j + 1) b k' v' e hj he)
    exact ⟨_, _, .u, _, rfl, r1, r2, .u _, hk⟩
   ·rename_i hi
    rw [hi] at hf
    simp only [Option.bind_none] at hf
    have hrun : (Builtin.delete_ #[t, tk] ty #[.map (some blk), kval q n ks]).run P C.w = .ok (.tuple #[]) (C.w.putObj blk (.map ces clock)) := by
     simp [Builtin.delete_, run_underlying ht, hg, hck, hf, hset]
    rw [hrun]
    obtain ⟨r1, r2⟩ := turn_map h ho hρ hb (ces' := ces) (es' := es) (clock' := clock) hl hv
    exact ⟨_, _, .u, _, rfl, r1, r2, .u _, hk⟩
  ·exact hk.elim
 ·exact hk.elim
theorem mkmap_sound (h : R C σ) (t : TypeId) {K : V → List O → Prop} (hk : K (.m σ.length) (σ ++ [.map [] 0])) : Done C K ((Instr.makeMap t none).run P C.w) := by
 have : (Instr.makeMap t none).run P C.w = .ok (.map (some C.w.heap.size)) (C.w.alloc (.map #[] 0)) := by simp [Instr.makeMap]
 rw [this]
 have hb : (C.alloc (.map #[] 0)).w.heap[C.w.heap.size]? = some (.map #[] 0) := heap_alloc_eq _ _
 refine ⟨_, C.alloc (.map #[] 0), _, _, rfl, h.alloc _ (.map [] 0) rfl (.map [] 0 #[] hb rfl (by simp)), alloc_ext h.wf _, ?_, hk⟩
 refine .m _ C.w.heap.size 0 ?_ ?_
 ·show (C.ρ ++ _)[σ.length]? = _
  rw [h.len, ← h.wf.len]; simp
 ·show (C.vs ++ _)[σ.length]? = _
  rw [h.len]; simp
theorem rng_sound (h : R C σ) {x : V} {c : Value} (hx : VR C x c) {t k e : TypeId} (ht : P.underlying t = some (.map k e)) {K : V → List O → Prop} (hk : rngK x σ K) :
  Done C K ((Instr.range t c).run P C.w) := by
 cases x <;> simp only [rngK] at hk
 case m id =>
  split at hk
  ·rename_i es clock ho
   obtain ⟨blk, bs, ces, rfl, hρ, hb, hl, hv⟩ := map_inv_live h ho hx
   have hg : (getObj blk).run P C.w = .ok (.map ces clock) C.w := by simp [getObj, Sem.run, hb]
   have : (Instr.range t (.map (some blk))).run P C.w = .ok (.pointer (some ⟨C.w.heap.size, 0, none⟩)) (C.w.alloc (.mapIter (some blk) clock #[] clock)) := by
    simp [Instr.range, run_underlying ht, hg]
   rw [this]
   have e1 := alloc_ext h.wf (.mapIter (some blk) clock #[] clock)
   refine ⟨_, C.alloc (.mapIter (some blk) clock #[] clock), _, _, rfl, h.alloc _ (.it id clock [] clock) rfl (.it id clock [] clock blk rfl (hx.ext e1 h.wf) (heap_alloc_eq _ _)), e1, ?_, hk⟩
   refine .p _ 0 0 C.w.heap.size 0 ?_ ?_
   ·show (C.ρ ++ _)[σ.length]? = _
    rw [h.len, ← h.wf.len]; simp
   ·show (C.vs ++ _)[σ.length]? = _
    rw [h.len]; simp
  ·exact hk.elim
 all_goals exact hk.elim
theorem it_inv (h : R C σ) {id off mid since stepped : Nat} {seen : List Nat} {c : Value} (ho : σ[id]? = some (.it mid since seen stepped)) (hx : VR C (.p id 0 off) c) :
  ∃ blk mb, c = .pointer (some ⟨blk, off, none⟩) ∧ C.ρ[id]? = some (blk, 0) ∧ VR C (.m mid) (.map (some mb)) ∧ C.w.heap[blk]? = some (.mapIter (some mb) since seen.toArray stepped) := by
 obtain ⟨blk, bs, rfl, hρ⟩ := live_ptr (h.ver id _ ho) hx
 cases h.obj id _ blk bs ho hρ with
 | it _ _ _ _ mb h0 hm hb =>
  subst h0
  exact ⟨blk, mb, by rw [Nat.zero_add], hρ, hm, hb⟩
theorem nxt_sound (h : R C σ) {x : V} {c : Value} (hx : VR C x c) (ty : TypeId) {K : V → List O → Prop} (hk : nxtK x σ K) : Done C K ((Instr.next c false ty).run P C.w) := by
 cases x <;> simp only [nxtK] at hk
 case p id ver off =>
  split at hk
  ·rename_i mid since seen stepped ho
   split at hk
   ·rename_i es clock hom
    obtain ⟨rfl, rfl, rfl, rfl, hborn, hend, hstep⟩ := hk
    obtain ⟨blk, mb, rfl, hρ, hm, hb⟩ := it_inv h ho hx
    obtain ⟨mblk, mbs, ces, hE, hmρ, hmb, hl, hv⟩ := map_inv_live h hom hm
    cases hE
    have hcb : ∀ e ∈ ces, e.born < stepped := by
     intro e he
     obtain ⟨j, hj⟩ := Array.mem_iff_getElem?.1 he
     have hjl : j < es.length := by have := (Array.getElem?_eq_some_iff.1 hj).1; omega
     have := hv j es[j].1 es[j].2.1 es[j].2.2 e (List.getElem?_eq_getElem hjl) hj
     have h2 := hborn es[j] (List.getElem_mem hjl)
     omega
    have hg1 : (getObj blk).run P C.w = .ok (.mapIter (some mb) stepped seen.toArray stepped) C.w := by simp [getObj, Sem.run, hb]
    have hg2 : (getObj mb).run P C.w = .ok (.map ces stepped) C.w := by simp [getObj, Sem.run, hmb]
    obtain ⟨left, hleft⟩ : ∃ left, ces.filter (fun e => !seen.toArray.contains e.born) = left := ⟨_, rfl⟩
    have hlm : ∀ e ∈ left, e ∈ ces ∧ e.born ∉ seen := by
     intro e he
     rw [← hleft] at he
     simp only [Array.mem_filter, Bool.not_eq_true'] at he
     refine ⟨he.1, fun hm => ?_⟩
     have h2 := he.2
     simp at h2
     exact h2 hm
    have hold : left.filter (fun e => decide (e.born < stepped)) = left := by
     rw [Array.filter_eq_self]
     intro e he
     simpa using hcb e (hlm e he).1
    have hnew : left.filter (fun e => decide (e.born ≥ stepped)) = #[] := by
     rw [Array.filter_eq_empty_iff]
     intro e he
     have := hcb e (hlm e he).1
     simp; omega
    have hguard : (!seen.toArray.isEmpty && !ces.isEmpty && ces.all (fun e => decide (e.born ≥ stepped))) = false := by
     by_cases h0 : ces.isEmpty = true
     ·simp [h0]
     ·have : ∃ e, e ∈ ces := by
       have hne : ces.size ≠ 0 := by simpa [Array.isEmpty] using h0
       exact ⟨ces[0]'(by omega), Array.getElem_mem (by omega)⟩
      obtain ⟨e, he⟩ := this
      have hall : ces.all (fun e => decide (e.born ≥ stepped)) = false := by
       rw [Array.all_eq_false]
       obtain ⟨j, hj, hje⟩ := Array.mem_iff_getElem.1 he
       refine ⟨j, hj, ?_⟩
       rw [hje]
       have := hcb e he
       simp; omega
      simp [hall]
    have hgt : ∀ e ∈ left, ∃ (j : Nat) (b : Nat) (k v : V), es[j]? = some (b, k, v) ∧ e.born = b ∧ VR C k e.key ∧ VR C v e.val := by
     intro e he
     obtain ⟨j, hj⟩ := Array.mem_iff_getElem?.1 (hlm e he).1
     have hjl : j < es.length := by have := (Array.getElem?_eq_some_iff.1 hj).1; omega
     exact ⟨j, _, _, _, List.getElem?_eq_getElem hjl, hv j es[j].1 es[j].2.1 es[j].2.2 e (List.getElem?_eq_getElem hjl) hj⟩
    by_cases hemp : left = #[]
    ·have hch : (choose (.mapNext 1)).run P C.w = .ok 0 C.w := by simp [choose, Sem.run, Question.forced]
     have hrun : (Instr.next (.pointer (some ⟨blk, 0, none⟩)) false ty).run P C.w = .ok (.tuple #[.bool false]) C.w := by
      simp only [Instr.next, Sem.run_bind, hg1, Result.andThen_ok, hg2, hguard, Bool.false_eq_true, if_false, hleft, hold, hnew, Array.append_empty, hemp]
      simp [Question.forced]
     rw [hrun]
     refine Done.same h (.tup _ #[.bool false] rfl (fun j x c hx hc => by
      match j with
      | 0 => simp at hx hc; subst hx; subst hc; exact .b _
      | j + 1 => simp at hx)) (hend (fun e he => ?_))
     obtain ⟨j, hj⟩ := List.mem_iff_getElem?.1 he
     have hjl : j < ces.size := by have := (List.getElem?_eq_some_iff.1 hj).1; omega
     have hbo := (hv j e.1 e.2.1 e.2.2 ces[j] hj (Array.getElem?_eq_getElem hjl)).1
     rcases Decidable.em (e.1 ∈ seen) with hin | hin
     ·exact hin
     ·exfalso
      have : ces[j] ∈ left := by
       rw [← hleft]
       simp only [Array.mem_filter, Bool.not_eq_true']
       exact ⟨Array.getElem_mem hjl, by rw [hbo]; simpa using hin⟩
      rw [hemp] at this
      simp at this
    ·have hne : 0 < left.size := by
      rcases Nat.eq_zero_or_pos left.size with h0 | h0
      ·exact absurd (Array.eq_empty_of_size_eq_zero h0) hemp
      ·exact h0
     obtain ⟨ix, w1, hch, hix, hw1⟩ : ∃ ix w1, (choose (.mapNext left.size)).run P C.w = .ok ix w1 ∧ ix < left.size ∧ (w1 = C.w ∨ w1 = C.w.drew) := by
      by_cases h1 : left.size ≤ 1
      ·exact ⟨0, C.w, by simp [choose, Sem.run, Question.forced, h1], hne, .inl rfl⟩
      ·exact ⟨C.w.tape C.w.drawn (.mapNext left.size) % left.size, C.w.drew, by simp [choose, Sem.run, Question.forced, h1, Question.cut], Nat.mod_lt _ hne, .inr rfl⟩
     have hheap : w1.heap = C.w.heap := by rcases hw1 with rfl | rfl <;> rfl
     have hset : ∀ o, (setObj blk o).run P w1 = .ok () (w1.putObj blk o) := fun o => by simp [setObj, Sem.run, hheap, hb, World.putObj]
     have hie : left.isEmpty = false := by simp [Array.isEmpty]; omega
     have hrun : (Instr.next (.pointer (some ⟨blk, 0, none⟩)) false ty).run P C.w = .ok (.tuple #[.bool true, left[ix].key, left[ix].val]) (w1.putObj blk (.mapIter (some mb) stepped (seen.toArray.push left[ix].born) stepped)) := by
      simp only [Instr.next, Sem.run_bind, hg1, Result.andThen_ok, hg2, hguard, Bool.false_eq_true, if_false, hleft, hold, hnew, Array.append_empty, hie, Array.empty_append, Array.size_map, hch]
      simp only [Array.getElem?_map, Array.getElem?_eq_getElem hix, Option.map_some, Sem.run_bind, hset, Result.andThen_ok, Sem.run_pure]
     rw [hrun]
     obtain ⟨j, b, k, v, hej, hbo, hkv, hvv⟩ := hgt left[ix] (Array.getElem_mem hix)
     have hnin := (hlm left[ix] (Array.getElem_mem hix)).2
     have hk := hstep (b, k, v) (List.mem_of_getElem? hej) (by simpa [hbo] using hnin)
     have q : R (C.world w1) σ ∧ Ext C (C.world w1) := by
      rcases hw1 with rfl | rfl
      ·exact ⟨h, Ext.refl C⟩
      ·exact h.quiet rfl rfl rfl (Nat.le_refl _) (fun _ _ => rfl)
     have hb1 : (C.world w1).w.heap[blk]? = some (.mapIter (some mb) stepped seen.toArray stepped) := by show w1.heap[blk]? = _; rw [hheap]; exact hb
     have hlt : blk < w1.heap.size := (Array.getElem?_eq_some_iff.1 hb1).1
     obtain ⟨r1, r2⟩ := q.1.turn (o' := .it mid stepped (seen ++ [b]) stepped) (bs' := 0) ho hρ (.inl ⟨rfl, rfl⟩) (w' := w1.putObj blk (.mapIter (some mb) stepped (seen.toArray.push left[ix].born) stepped)) rfl rfl rfl (by simp [Cx.world])
      (fun b _ hne => World.putObj_heap_other hne) (fun cc t hc => by rw [hb1] at hc; cases hc)
      (fun ex => .it mid stepped (seen ++ [b]) stepped mb rfl ((hm.ext q.2 h.wf).ext ex q.1.wf) (by
       have : (seen ++ [b]).toArray = seen.toArray.push left[ix].born := by rw [hbo]; simp
       rw [this]; exact World.putObj_heap_same hlt))
     refine ⟨_, _, _, _, rfl, r1, q.2.trans r2, ?_, hk⟩
     refine .tup _ #[.bool true, left[ix].key, left[ix].val] rfl (fun j x c hx hc => ?_)
     match j with
     | 0 => simp at hx hc; subst hx; subst hc; exact .b _
     | 1 => simp at hx hc; subst hx; subst hc; exact (hkv.ext q.2 h.wf).ext r2 q.1.wf
     | 2 => simp at hx hc; subst hx; subst hc; exact (hvv.ext q.2 h.wf).ext r2 q.1.wf
     | j + 3 => simp at hx
   ·exact hk.elim
  ·exact hk.elim
 all_goals exact hk.elim
theorem ent_sound (h : R C σ) {x : V} {c : Value} (hx : VR C x c) {K : V → Prop} (hk : entK x σ K) : Done C (fun v σ' => σ' = σ ∧ K v) ((Instr.entry c).run P C.w) := by
 cases x <;> simp only [entK] at hk
 case p id ver off =>
  split at hk
  ·rename_i mid since seen stepped ho
   split at hk
   ·rename_i es clock b hom hlast
    obtain ⟨rfl, rfl, rfl, hk⟩ := hk
    obtain ⟨blk, mb, rfl, hρ, hm, hb⟩ := it_inv h ho hx
    obtain ⟨mblk, mbs, ces, hE, hmρ, hmb, hl, hv⟩ := map_inv_live h hom hm
    cases hE
    split at hk
    ·rename_i e he
     have hg1 : (getObj blk).run P C.w = .ok (.mapIter (some mb) since seen.toArray clock) C.w := by simp [getObj, Sem.run, hb]
     have hg2 : (getObj mb).run P C.w = .ok (.map ces clock) C.w := by simp [getObj, Sem.run, hmb]
     have hback : seen.toArray.back? = some b := by simpa using hlast
     have key : ∀ (es : List (Nat × V × V)) (cl : List MapEntry), cl.length = es.length → (∀ (j b : Nat) (k v : V) (e : MapEntry), es[j]? = some (b, k, v) → cl[j]? = some e → e.born = b ∧ VR C k e.key ∧ VR C v e.val) →
       es.find? (fun e => e.1 == b) = some e → ∃ ce, cl.find? (fun e => e.born == b) = some ce ∧ VR C e.2.1 ce.key ∧ VR C e.2.2 ce.val := by
      intro es
      induction es with
      | nil => intro cl _ _ hf; simp at hf
      | cons x es ih =>
       intro cl hlen hv hf
       cases cl with
       | nil => simp at hlen
       | cons c cl =>
        have h0 := hv 0 x.1 x.2.1 x.2.2 c rfl rfl
        rw [List.find?_cons] at hf ⊢
        rw [h0.1]
        split at hf
        ·rename_i hx
         cases hf
         exact ⟨c, rfl, h0.2⟩
        ·rename_i hx
         exact ih cl (by simpa using hlen) (fun j b k v e h1 h2 => hv (j + 1) b k v e (by simpa using h1) (by simpa using h2)) hf
     obtain ⟨ce, hce, v1, v2⟩ := key es ces.toList (by simpa using hl) (fun j b k v e h1 h2 => hv j b k v e h1 (by simpa using h2)) he
     have hce' : ces.find? (fun e => e.born == b) = some ce := by rw [← Array.find?_toList]; exact hce
     have hrun : (Instr.entry (.pointer (some ⟨blk, 0, none⟩))).run P C.w = .ok (.tuple #[ce.key, ce.val]) C.w := by
      simp only [Instr.entry, Sem.run_bind, hg1, Result.andThen_ok, hback, hg2, bne_self_eq_false, Bool.false_eq_true, if_false, hce', Sem.run_pure]
     rw [hrun]
     exact Done.same h (.tup _ #[ce.key, ce.val] rfl (fun j x c hx hc => by
      match j with
      | 0 => simp at hx hc; subst hx; subst hc; exact v1
      | 1 => simp at hx hc; subst hx; subst hc; exact v2
      | j + 2 => simp at hx)) ⟨rfl, hk⟩
    ·exact hk.elim
   all_goals exact hk.elim
  ·exact hk.elim
 all_goals exact hk.elim
end
end Go.Ab
end
section
namespace Go.Ab
open Go
def gd (b : Bool) (x : IOp) : Option IOp := if b then some x else none
def trParts' (P : Program) (fs : Array Field) (i : Nat) : Option (Nat × Nat) :=
 match fs[i]? with
 | some f => match szP P f.type with
  | some s => some (f.offset, s)
  | none => none
 | none => none
def trBuiltin (P : Program) (b : Builtin) (args : List Operand) (ts : Array TypeId) : Option IOp :=
 match b, args with
 | .len, [x] => match ts[0]?, trX x with
  | some t, some y => match P.underlying t with
   | some (.slice _) => gd (ts.size == 1) (.len y)
   | some (.map _ _) => gd (ts.size == 1) (.lenm y)
   | some .string => gd (ts.size == 1) (.lens y)
   | some (.array n _) => gd (ts.size == 1) (.mov (.c (.i .i64 n)))
   | _ => none
  | _, _ => none
 | .append, [x, y] => match ts[0]?, ts[1]?, trX x, trX y with
  | some t, some t', some a, some b => match P.underlying t with
   | some (.slice e) => match P.info? e, zcP P e with
    | some i, some zs => gd (t == t' && ts.size == 2 && zs.length == i.size && decide (0 < i.bytes)) (.app i.size i.bytes a b)
    | _, _ => none
   | _ => none
  | _, _, _, _ => none
 | .clear, [x] => match ts[0]?, trX x with
  | some t, some y => match P.underlying t with
   | some (.slice e) => match szP P e, zcP P e with
    | some s, some zs => gd (ts.size == 1 && zs.length == s) (.clr s zs y)
    | _, _ => none
   | _ => none
  | _, _ => none
 | .copy, [x, y] => match ts[0]?, trX x, trX y with
  | some t, some a, some b => match P.underlying t with
   | some (.slice e) => match szP P e with
    | some s => gd (ts.size == 2) (.cpy s a b)
    | _ => none
   | _ => none
  | _, _, _ => none
 | .delete, [x, y] => match ts[0]?, trX x, trX y with
  | some t, some a, some b => match P.underlying t with
   | some (.map k _) => match keyP P k with
    | some (q, n) => gd (ts.size == 2) (.mdel q n a b)
    | _ => none
   | _ => none
  | _, _, _ => none
 | .max, xs => (trXs xs).map .mx
 | .min, xs => (trXs xs).map .mn
 | _, _ => none
def trOp (P : Program) (frz : Bool) (o : Oper) : Option IOp :=
 match o.op with
 | .move x => (trX x).map .mov
 | .assign x => (trX x).map .mov
 | .pick c a b => match trX c, trX a, trX b with
  | some c, some a, some b => some (.pick c a b)
  | _, _, _ => none
 | .alloc e => (zcP P e).map .alloc
 | .box _ x => (trX x).map .box
 | .build t ps => match P.underlying t, zcP P t with
  | some (.struct fs), some zs => match trParts P (trParts' P fs) ps.toList with
   | some qs => gd (fs.toList.all (fun f => (szP P f.type).isSome)) (.build zs qs)
   | none => none
  | some (.array _ e), some zs => match szP P e with
   | some s => (trParts P (fun i => some (i * s, s)) ps.toList).map (.build zs)
   | none => none
  | _, _ => none
 | .buildSlice t n ps => match P.underlying t with
  | some (.slice e) => match szP P e, zcP P e with
   | some s, some zs => match trParts P (fun i => some (i * s, s)) ps.toList with
    | some qs => gd (zs.length == s && decide (n * s ≤ 16777216)) (.bsl frz s n (rep n zs) qs)
    | none => none
   | _, _ => none
  | _ => none
 | .load t a => match aggP P t, szP P t, trX a with
  | some false, _, some x => some (.load1 x)
  | some true, some n, some x => some (.loadA n x)
  | _, _, _ => none
 | .store t a v => match aggP P t, szP P t, trX a, trX v with
  | some false, some n, some x, some y => gd (n == 1) (.store1 x y)
  | some true, some n, some x, some y => some (.storeA n x y)
  | _, _, _, _ => none
 | .nilCheck x => (trX x).map .nilc
 | .binOp op t x y0 _ => match trX x, trX y0 with
  | some x, some y => match P.underlying t with
   | some (.slice _) => match op, y0 with
    | .eql, .const (.slice none 0 0) => some (.snil false x)
    | .neq, .const (.slice none 0 0) => some (.snil true x)
    | _, _ => none
   | some (.int _) => some (.bin op x y)
   | some .bool => match op with
    | .eql => some (.eqb false x y)
    | .neq => some (.eqb true x y)
    | _ => none
   | _ => match eqP P t, op with
    | some (q, n), .eql => some (.eqv q n false x y)
    | some (q, n), .neq => some (.eqv q n true x y)
    | _, _ => none
  | _, _ => none
 | .unOp op _ x => match op with
  | .not => (trX x).map .not
  | .neg => (trX x).map .neg
  | .xor => (trX x).map .com
  | _ => none
 | .convert s d x => match P.underlying s, P.underlying d, trX x with
  | some _, some (.int k), some y => some (.conv k y)
  | _, _, _ => none
 | .makeFunc fn a b => match trXs a.toList, trXs b.toList with
  | some xs, some ys => some (.mkf fn xs ys)
  | _, _ => none
 | .makeMap _ none => some .mkmap
 | .makeSlice t l c => match P.underlying t, trX l, trX c with
  | some (.slice e), some x, some y => match P.info? e, zcP P e with
   | some i, some zs => gd (zs.length == i.size) (.mksl i.size i.bytes zs x y)
   | _, _ => none
  | _, _, _ => none
 | .slice t x lo hi mx => match trX x, trO lo, trO hi, trO mx with
  | some y, some l, some h, some m => match P.underlying t with
   | some (.slice e) => (szP P e).map fun s => .slc s y l h m
   | some (.array n e) => match l, h, m with
    | none, none, none => (szP P e).map fun s => .sla n s y
    | _, _, _ => none
   | _ => none
  | _, _, _, _ => none
 | .fieldAddr s x f => match P.underlying s, trX x with
  | some (.struct fs), some y => match fs[f]? with
   | some fl => match szP P fl.type with
    | some n => gd (n != 0) (.fad fl.offset y)
    | none => none
   | none => none
  | _, _ => none
 | .field s x f => match P.underlying s, trX x with
  | some (.struct fs), some y => match fs[f]? with
   | some fl => match aggP P fl.type, szP P fl.type with
    | some false, _ => some (.fld1 fl.offset y)
    | some true, some n => some (.fldA fl.offset n y)
    | _, _ => none
   | none => none
  | _, _ => none
 | .indexAddr t x i => match trX x, trX i with
  | some y, some j => match P.underlying t with
   | some (.array n e) => (szP P e).map fun s => .ixa n s y j
   | some (.slice e) => (szP P e).map fun s => .ixs s y j
   | _ => none
  | _, _ => none
 | .index t x i => match trX x, trX i, P.underlying t with
  | some y, some j, some (.array n e) => match aggP P e, szP P e with
   | some false, some s => gd (s == 1) (.ixv n none y j)
   | some true, some s => some (.ixv n (some s) y j)
   | _, _ => none
  | some y, some j, some .string => some (.sidx y j)
  | _, _, _ => none
 | .lookup t x k ok => match P.underlying t, trX x, trX k with
  | some (.map key e), some y, some z => match keyP P key, zcP P e, aggP P e with
   | some (q, n), some [zv], some false => match P.info? e with
    | some i => match i.zero with
     | some v => gd v.oneCell' (.lkp q n zv ok y z)
     | none => none
    | none => none
   | _, _, _ => none
  | _, _, _ => none
 | .mapUpdate t m k v => match P.underlying t, trX m, trX k, trX v with
  | some (.map key e), some x, some y, some z => match keyP P key with
   | some (q, n) => some (.mset q n x y z)
   | none => none
  | _, _, _, _ => none
 | .mapEntry t x k => match P.underlying t, trX x, trX k with
  | some (.map key e), some y, some z => match keyP P key, zcP P e with
   | some (q, n), some [zv] => match P.info? e with
    | some i => match i.zero with
     | some v => gd v.oneCell' (.ment q n zv y z)
     | none => none
    | none => none
   | _, _ => none
  | _, _, _ => none
 | .entryStore _ x s v => match trX x, trX s, trX v with
  | some y, some z, some w => some (.mest y z w)
  | _, _, _ => none
 | .range t x => match P.underlying t, trX x with
  | some (.map _ _), some y => some (.rng y)
  | _, _ => none
 | .next x false => (trX x).map .nxt
 | .entry x => (trX x).map .ent
 | .extract x i => (trX x).map (.ext i)
 | .call c => match c.callee with
  | .value (.func f) => (trXs c.args.toList).map (.call f)
  | .value x => match trX x, trXs c.args.toList with
   | some g, some xs => some (.callv g xs)
   | _, _ => none
  | .builtin b => trBuiltin P b c.args.toList c.argTypes
  | _ => none
 | _ => none
def IOp.isCall : IOp → Bool
 | .call _ _ => true
 | .callv _ _ => true
 | _ => false
section
variable {P : Program} {C : Cx} {σ : List O}
def NextOK (C : Cx) (K : V → List O → Prop) (r : Result Next) : Prop :=
 ∃ cv C' v σ', (r = .ok (.value cv) C'.w ∨ (r = .ok .skip C'.w ∧ cv = undef)) ∧ R C' σ' ∧ Ext C C' ∧ VR C' v cv ∧ K v σ'
theorem NextOK.of_done {K : V → List O → Prop} {s : Sem Value} (h : Done C K (s.run P C.w)) : NextOK C K ((do pure (.value (← s)) : Sem Next).run P C.w) := by
 obtain ⟨cv, C', v, σ', e, r, x, vr, k⟩ := h
 exact ⟨cv, C', v, σ', .inl (by simp [e]), r, x, vr, k⟩
theorem NextOK.of_doneU {K : V → List O → Prop} {s : Sem Unit} (h : DoneU C K (s.run P C.w)) : NextOK C K ((do s; pure .skip : Sem Next).run P C.w) := by
 obtain ⟨C', σ', e, r, x, k⟩ := h
 exact ⟨undef, C', .u, σ', .inr ⟨by simp [e], rfl⟩, r, x, .u _, k⟩
theorem Done.mono {K K' : V → List O → Prop} {r : Result Value} (h : Done C K r) (hk : ∀ v σ', K v σ' → K' v σ') : Done C K' r := by
 obtain ⟨cv, C', v, σ', e, a, b, c, d⟩ := h
 exact ⟨cv, C', v, σ', e, a, b, c, hk _ _ d⟩
theorem Done.eqσ {K : V → List O → Prop} {r : Result Value} (h : Done C (fun v σ' => σ' = σ ∧ K v σ) r) : Done C K r :=
 h.mono fun v σ' ⟨e, k⟩ => by rw [e]; exact k
variable {env : Nat → V} {a : Act}
theorem trXs_sound (he : ∀ t, VR C (env t) (a.tmps.getD t undef)) : ∀ {xs : List Operand} {ys : List Od}, trXs xs = some ys → VRl C (ys.map (Od.ev env)) (xs.map a.eval)
 | [], ys, h => by simp [trXs] at h; subst h; exact ⟨rfl, by simp⟩
 | x :: xs, ys, h => by
  simp only [trXs] at h
  split at h
  ·rename_i y zs hy hz
   cases h
   have ih := trXs_sound he hz
   refine ⟨by simpa using ih.1, fun j v c hv hc => ?_⟩
   cases j with
   | zero => simp at hv hc; subst hv; subst hc; exact trX_sound hy he
   | succ j => exact ih.2 j v c (by simpa using hv) (by simpa using hc)
  ·cases h
theorem trParts_sound (he : ∀ t, VR C (env t) (a.tmps.getD t undef)) {place : Nat → Option (Nat × Nat)} : ∀ {ps : List (Nat × Operand)} {qs : List (Nat × Nat × Od)}, trParts P place ps = some qs →
  (qs.map fun p => (p.1, p.2.1, p.2.2.ev env)).length = (ps.map fun p => (p.1, a.eval p.2)).length ∧
  ∀ (j o s : Nat) (x : V) (i : Nat) (c : Value), (qs.map fun p => (p.1, p.2.1, p.2.2.ev env))[j]? = some (o, s, x) → (ps.map fun p => (p.1, a.eval p.2))[j]? = some (i, c) → place i = some (o, s) ∧ VR C x c
 | [], qs, h => by simp [trParts] at h; subst h; simp
 | (i, x) :: ps, qs, h => by
  simp only [trParts] at h
  split at h
  ·rename_i o s y ys hp hx hr
   cases h
   obtain ⟨l, r⟩ := trParts_sound he hr
   refine ⟨by simpa using l, fun j o' s' x' i' c' hq hc => ?_⟩
   cases j with
   | zero =>
    simp at hq hc
    obtain ⟨rfl, rfl, rfl⟩ := hq
    obtain ⟨rfl, rfl⟩ := hc
    exact ⟨hp, trX_sound hx he⟩
   | succ j => exact r j o' s' x' i' c' (by simpa using hq) (by simpa using hc)
  ·cases h
theorem trO_sound (he : ∀ t, VR C (env t) (a.tmps.getD t undef)) {x : Option Operand} {y : Option Od} (h : trO x = some y) :
  (∀ v c, y.map (Od.ev env) = some v → x.map a.eval = some c → VR C v c) ∧ (y.map (Od.ev env)).isSome = (x.map a.eval).isSome := by
 cases x with
 | none => simp [trO] at h; subst h; simp
 | some x =>
  simp only [trO, Option.map_eq_some_iff] at h
  obtain ⟨z, hz, rfl⟩ := h
  refine ⟨fun v c hv hc => ?_, rfl⟩
  simp at hv hc; subst hv; subst hc
  exact trX_sound hz he
theorem gd_some {b : Bool} {x y : IOp} (h : gd b x = some y) : b = true ∧ x = y := by
 unfold gd at h
 split at h
 ·rename_i hb; exact ⟨hb, Option.some.inj h⟩
 ·cases h
end
end Go.Ab
end
section
namespace Go.Ab
open Go
section
variable {P : Program} {C : Cx} {σ : List O} {env : Nat → V} {a : Act}
theorem builtin_run {o : Oper} {c : Call} {b : Builtin} (ho : o.op = .call c) (hc : c.callee = .builtin b) (w : World) :
  ∃ cs, (execOp a.eval o).run P w = (builtin b c.argTypes o.type cs (c.args.map a.eval)).run P w :=
 ⟨_, by simp only [execOp, ho, resolve, hc, Sem.run_bind, Sem.run_pure, Result.andThen_ok, invoke]; rfl⟩
theorem arr1 {α : Type} {a : Array α} {x : α} (h : a.toList = [x]) : a = #[x] := by
 rw [show a = a.toList.toArray by simp, h]
theorem arr2 {α : Type} {a : Array α} {x y : α} (h : a.toList = [x, y]) : a = #[x, y] := by
 rw [show a = a.toList.toArray by simp, h]
theorem ts1 {ts : Array TypeId} {t : TypeId} (h : ts[0]? = some t) (hs : ts.size = 1) : ts = #[t] := by
 match ts, hs with
 | ⟨[x]⟩, _ => simp at h; rw [h]
theorem ts2 {ts : Array TypeId} {t : TypeId} (h : ts[0]? = some t) (hs : ts.size = 2) : ∃ t', ts = #[t, t'] := by
 match ts, hs with
 | ⟨[x, y]⟩, _ => simp at h; rw [h]; exact ⟨y, rfl⟩
theorem max2_eq (k : IntKind) (x : Int) (k' : IntKind) (y : Int) : Builtin.max2 (.int k x) (.int k' y) = pure (.int k (max x y)) := by
 simp only [Builtin.max2]
 congr 2
 rw [Int.max_def]; split <;> split <;> omega
theorem min2_eq (k : IntKind) (x : Int) (k' : IntKind) (y : Int) : Builtin.min2 (.int k x) (.int k' y) = pure (.int k (min x y)) := by
 simp only [Builtin.min2]
 congr 2
 rw [Int.min_def]; split <;> split <;> omega
theorem builtin_sound (h : R C σ) (he : ∀ t, VR C (env t) (a.tmps.getD t undef)) {o : Oper} {c : Call} {b : Builtin} (ho : o.op = .call c) (hc : c.callee = .builtin b) {io : IOp}
  (htr : trBuiltin P b c.args.toList c.argTypes = some io) {K : V → List O → Prop} (hk : evK (Od.ev env) σ K io) : NextOK C K ((execOp a.eval o).run P C.w) := by
 obtain ⟨consts, hrun⟩ := builtin_run (P := P) (a := a) ho hc C.w
 rw [hrun]
 clear hrun
 unfold trBuiltin at htr
 split at htr
 ·-- len
  rename_i x hargs
  have hA : c.args.map a.eval = #[a.eval x] := by rw [arr1 hargs]; simp
  split at htr
  ·rename_i t y ht0 hy
   split at htr
   ·rename_i e ht
    obtain ⟨hs, rfl⟩ := gd_some htr
    have hts := ts1 ht0 (by simpa using hs)
    rw [hts, hA]
    exact NextOK.of_done (Done.eqσ (K := K) (len_sound h (trX_sound hy he) ht hk))
   ·rename_i k e ht
    obtain ⟨hs, rfl⟩ := gd_some htr
    have hts := ts1 ht0 (by simpa using hs)
    rw [hts, hA]
    exact NextOK.of_done (Done.eqσ (K := K) (lenm_sound h (trX_sound hy he) ht hk))
   ·rename_i ht
    obtain ⟨hs, rfl⟩ := gd_some htr
    have hts := ts1 ht0 (by simpa using hs)
    rw [hts, hA]
    exact NextOK.of_done (Done.eqσ (K := K) (lens_sound h (trX_sound hy he) ht hk))
   ·rename_i n e ht
    obtain ⟨hs, rfl⟩ := gd_some htr
    have hts := ts1 ht0 (by simpa using hs)
    rw [hts, hA]
    refine NextOK.of_done ?_
    have : (Builtin.len_ #[t] o.type #[a.eval x]).run P C.w = .ok (.int .i64 n) C.w := by simp [Builtin.len_, run_underlying ht, goInt]
    rw [this]
    exact Done.same h (.i _ _) hk
   ·cases htr
  ·cases htr
 ·-- append
  rename_i x y hargs
  have hA : c.args.map a.eval = #[a.eval x, a.eval y] := by rw [arr2 hargs]; simp
  split at htr
  ·rename_i t t' va vb ht0 ht1 hx hy
   split at htr
   ·rename_i e ht
    split at htr
    ·rename_i i zs hi hz
     obtain ⟨hs, rfl⟩ := gd_some htr
     simp only [Bool.and_eq_true, beq_iff_eq, decide_eq_true_eq] at hs
     obtain ⟨⟨⟨rfl, h2⟩, h3⟩, h4⟩ := hs
     obtain ⟨t'', hts⟩ := ts2 ht0 h2
     have : t'' = t := by rw [hts] at ht1; simpa using ht1
     subst this
     rw [hts, hA]
     exact NextOK.of_done (app_sound h (trX_sound hx he) (trX_sound hy he) ht hi hz h3 h4 hk)
    ·cases htr
   ·cases htr
  ·cases htr
 ·-- clear
  rename_i x hargs
  have hA : c.args.map a.eval = #[a.eval x] := by rw [arr1 hargs]; simp
  split at htr
  ·rename_i t y ht0 hy
   split at htr
   ·rename_i e ht
    split at htr
    ·rename_i s zs hs hz
     obtain ⟨hs', rfl⟩ := gd_some htr
     simp only [Bool.and_eq_true, beq_iff_eq] at hs'
     have hts := ts1 ht0 hs'.1
     rw [hts, hA]
     exact NextOK.of_done (clr_sound h (trX_sound hy he) ht hs hz hs'.2 hk)
    ·cases htr
   ·cases htr
  ·cases htr
 ·-- copy
  rename_i x y hargs
  have hA : c.args.map a.eval = #[a.eval x, a.eval y] := by rw [arr2 hargs]; simp
  split at htr
  ·rename_i t va vb ht0 hx hy
   split at htr
   ·rename_i e ht
    split at htr
    ·rename_i s hs
     obtain ⟨hs', rfl⟩ := gd_some htr
     obtain ⟨t'', hts⟩ := ts2 ht0 (by simpa using hs')
     rw [hts, hA]
     exact NextOK.of_done (cpy_sound h (trX_sound hx he) (trX_sound hy he) ht hs hk)
    ·cases htr
   ·cases htr
  ·cases htr
 ·-- delete
  rename_i x y hargs
  have hA : c.args.map a.eval = #[a.eval x, a.eval y] := by rw [arr2 hargs]; simp
  split at htr
  ·rename_i t va vb ht0 hx hy
   split at htr
   ·rename_i k e ht
    split at htr
    ·rename_i q n hkey
     obtain ⟨hs', rfl⟩ := gd_some htr
     obtain ⟨t'', hts⟩ := ts2 ht0 (by simpa using hs')
     rw [hts, hA]
     exact NextOK.of_done (mdel_sound h (trX_sound hx he) (trX_sound hy he) ht hkey hk)
    ·cases htr
   ·cases htr
  ·cases htr
 ·-- max
  simp only [Option.map_eq_some_iff] at htr
  obtain ⟨ys, hys, rfl⟩ := htr
  refine NextOK.of_done (Done.eqσ (K := K) (mx_sound h (trXs_sound he hys) (fun k x k' y => max2_eq k x k' y) hk _ (fun d ds hd => ?_)))
  simp only [Builtin.max_]
  rw [show (c.args.map a.eval).toList = d :: ds by simpa using hd]
 ·-- min
  simp only [Option.map_eq_some_iff] at htr
  obtain ⟨ys, hys, rfl⟩ := htr
  refine NextOK.of_done (Done.eqσ (K := K) (mx_sound h (trXs_sound he hys) (fun k x k' y => min2_eq k x k' y) hk _ (fun d ds hd => ?_)))
  simp only [Builtin.min_]
  rw [show (c.args.map a.eval).toList = d :: ds by simpa using hd]
 ·cases htr
end
end Go.Ab
end
end
