/- The abstract layer, part 6: slices: length, make, slicing, append, clear, copy; greatest and least. -/
import Derived.Test.YtchmfamkpfaieaaAb5
set_option linter.unusedVariables false
set_option linter.unusedSimpArgs false
namespace Go.Ab
open Go

section
variable {P : Program} {C : Cx} {σ : List O}

theorem map_inv_live (h : R C σ) {id : Nat} {es : List (Nat × V × V)} {clock : Nat} {c : Value} (ho : σ[id]? = some (.map es clock)) (hv : VR C (.m id) c) :
    ∃ blk bs ces, c = .map (some blk) ∧ C.ρ[id]? = some (blk, bs) ∧ C.w.heap[blk]? = some (.map ces clock) ∧ ces.size = es.length ∧
      ∀ (j b : Nat) (k v : V) (e : MapEntry), es[j]? = some (b, k, v) → ces[j]? = some e → e.born = b ∧ VR C k e.key ∧ VR C v e.val := by
  have hver := h.ver id _ ho
  cases hv with
  | m _ blk bs hρ hv =>
    cases h.obj id _ blk bs ho hρ with
    | map _ _ ces hb hl hv => exact ⟨blk, bs, ces, rfl, hρ, hb, hl, hv⟩
  | m0 _ v _ h1 hv hl =>
    rw [hver] at hv
    have := Option.some.inj hv
    simp only [O.ver] at this
    omega

theorem len_sound (h : R C σ) {x : V} {c : Value} (hx : VR C x c) {t ty e : TypeId} (he : P.underlying t = some (.slice e)) {K : V → Prop} (hk : lenK x σ K) :
    Done C (fun v σ' => σ' = σ ∧ K v) ((Builtin.len_ #[t] ty #[c]).run P C.w) := by
  have key : ∀ a n cap, (Builtin.len_ #[t] ty #[.slice a n cap]).run P C.w = .ok (.int .i64 n) C.w := fun a n cap => by simp [Builtin.len_, run_underlying he, goInt]
  cases x <;> simp only [lenK] at hk
  case s id ver off len es =>
    obtain ⟨blk, bs, at_, cap, cc, t', rfl, hρ, hlc, hb, hsz, ha⟩ := slice_live (live_ver h hk.1) hx
    rw [key]; exact Done.same h (.i _ _) ⟨rfl, hk.2⟩
  case ss cells len full =>
    cases hx with
    | ss0 a cap => rw [key]; exact Done.same h (.i _ _) ⟨rfl, hk⟩
    | ssn a => rw [key]; exact Done.same h (.i _ _) ⟨rfl, hk⟩
    | ss => rw [key]; exact Done.same h (.i _ _) ⟨rfl, hk⟩
  all_goals exact hk.elim

theorem lenm_sound (h : R C σ) {x : V} {c : Value} (hx : VR C x c) {t ty k e : TypeId} (he : P.underlying t = some (.map k e)) {K : V → Prop} (hk : lenmK x σ K) :
    Done C (fun v σ' => σ' = σ ∧ K v) ((Builtin.len_ #[t] ty #[c]).run P C.w) := by
  cases x <;> simp only [lenmK] at hk
  case nm =>
    cases hx with
    | nm =>
      have : (Builtin.len_ #[t] ty #[.map none]).run P C.w = .ok (.int .i64 0) C.w := by simp [Builtin.len_, run_underlying he, goInt]
      rw [this]; exact Done.same h (.i _ _) ⟨rfl, hk⟩
  case m id =>
    split at hk
    · rename_i es clock ho
      obtain ⟨blk, bs, ces, rfl, hρ, hb, hl, hv⟩ := map_inv_live h ho hx
      have : (Builtin.len_ #[t] ty #[.map (some blk)]).run P C.w = .ok (.int .i64 es.length) C.w := by simp [Builtin.len_, run_underlying he, goInt, getObj, Sem.run, hb, hl]
      rw [this]; exact Done.same h (.i _ _) ⟨rfl, hk⟩
    · exact hk.elim
  case sm l =>
    cases hx with
    | sm _ blk es clock hz hb hl hk' hv =>
      have : (Builtin.len_ #[t] ty #[.map (some blk)]).run P C.w = .ok (.int .i64 l.length) C.w := by simp [Builtin.len_, run_underlying he, goInt, getObj, Sem.run, hb, hl]
      rw [this]; exact Done.same h (.i _ _) ⟨rfl, hk⟩
  all_goals exact hk.elim

theorem lens_sound (h : R C σ) {x : V} {c : Value} (hx : VR C x c) {t ty : TypeId} (he : P.underlying t = some .string) {K : V → Prop} (hk : lensK x K) :
    Done C (fun v σ' => σ' = σ ∧ K v) ((Builtin.len_ #[t] ty #[c]).run P C.w) := by
  cases x <;> simp only [lensK] at hk
  case str s =>
    cases hx with
    | str s =>
      have : (Builtin.len_ #[t] ty #[.string s]).run P C.w = .ok (.int .i64 s.size) C.w := by simp [Builtin.len_, run_underlying he, goInt]
      rw [this]; exact Done.same h (.i _ _) ⟨rfl, hk⟩
  all_goals exact hk.elim

theorem mksl_sound (h : R C σ) {l c : V} {cl cc : Value} (hl : VR C l cl) (hc : VR C c cc) {t e : TypeId} {i : TypeInfo} (ht : P.underlying t = some (.slice e)) (hi : P.info? e = some i)
    {zs : List V} (hz : zcP P e = some zs) (hzl : zs.length = i.size) {K : V → List O → Prop}
    (hk : match l, c with | .i _ n, .i _ n' => n = n' ∧ 0 ≤ n ∧ n ≤ 281474976710656 ∧ i.bytes * n ≤ 281474976710656 ∧ K (.s σ.length 0 0 n.toNat i.size) (σ ++ [.row 0 (rep n.toNat zs)]) | _, _ => False) :
    Done C K ((Instr.makeSlice t cl cc).run P C.w) := by
  cases l <;> cases c <;> simp only at hk
  case i.i k n k' n' =>
    obtain ⟨rfl, h0, hsm, hbig, hk⟩ := hk
    obtain rfl := int_inv hl
    obtain rfl := int_inv hc
    obtain ⟨z, hr, a, b, cz, -⟩ := zcP_sound hz C
    have hzs : z.cells.size = i.size := by rw [a, hzl]
    have hw : IntKind.i64.wrap n = n := by
      have e : n % 18446744073709551616 = n := by omega
      have e2 : ¬ (n ≥ 9223372036854775808) := by omega
      simp only [IntKind.wrap, IntKind.signed, IntKind.bits, show ((2 : Int) ^ 64) = 18446744073709551616 from rfl, show ((2 : Int) ^ (64 - 1)) = 9223372036854775808 from rfl, e]
      simp [e2]
    have hn : (n.toNat : Int) = n := Int.toNat_of_nonneg h0
    have hcr := zeros_cr (C := C) a b cz n.toNat
    rw [hzs] at hcr
    have hsz : szP P e = some i.size := by simp [szP, hi]
    have hrun : (Instr.makeSlice t (.int k n) (.int k' n)).run P C.w = .ok (.slice (some ⟨C.w.heap.size, 0, none⟩) n.toNat n.toNat) (C.w.alloc (.cells ((Array.range (n.toNat * i.size)).map (z.cells[· % i.size]!)).toList.toArray e)) := by
      have hti : ∀ w, (typeInfo e).run P w = .ok i w := fun w => by simp [typeInfo, hi]
      simp only [Instr.makeSlice, Sem.run_bind, run_underlying ht, Result.andThen_ok, asInt, asIntOf, Sem.run_pure, hti, hw, run_sizeOf hsz]
      rw [if_neg (by
        simp only [gt_iff_lt, Bool.or_eq_true, decide_eq_true_eq]
        have : ((i.bytes : Int) * n) ≤ 281474976710656 := hbig
        omega)]
      rw [Sem.run_bind, run_askRoom, Result.andThen_ok, Sem.run_bind, run_sizeOf hsz, Result.andThen_ok]
      by_cases hz0 : n.toNat * i.size = 0
      · rw [if_pos hz0, hz0]
        simp only [Sem.run_pure, Result.andThen_ok, newRow, Sem.run_bind, run_newObj]
        have e0 : ∀ f : Nat → Value, (Array.map f (Array.range 0)) = #[] := fun f => by simp
        rw [e0, e0]
        rfl
      · rw [if_neg hz0]
        simp only [Sem.run_bind, hr, Sem.run_pure, Result.andThen_ok, newRow, run_newObj, hzs, Array.toArray_toList]
        rfl
    rw [hrun]
    obtain ⟨r1, r2, r3, r4, r5⟩ := new_row h e hcr.1 hcr.2.1 hcr.2.2
    refine ⟨_, C.alloc _, _, _, rfl, r1, r2, ?_, hk⟩
    refine .s _ _ _ _ _ C.w.heap.size 0 0 n.toNat _ e r3 r4 (Nat.le_refl _) r5 ?_ (fun _ => rfl)
    have := hcr.1
    rw [rep_len, hzl] at this
    simp only [List.size_toArray, this]
    omega
  all_goals exact hk.elim

theorem slcB_sound {len cap : Nat} (hlc : len ≤ cap) {lo hi mx : Option V} {clo chi cmx : Option Value} (h1 : ∀ v c, lo = some v → clo = some c → VR C v c) (h1' : lo.isSome = clo.isSome)
    (h2 : ∀ v c, hi = some v → chi = some c → VR C v c) (h2' : hi.isSome = chi.isSome) (h3 : ∀ v c, mx = some v → cmx = some c → VR C v c) (h3' : mx.isSome = cmx.isSome)
    {K : Nat → Nat → Option Nat → Prop} (hk : slcB len lo hi mx K) :
    ∃ l hh m, (Instr.sliceBounds true len cap clo chi cmx).run P C.w = .ok (l, hh, m.getD cap) C.w ∧ l ≤ hh ∧ hh ≤ len ∧ (∀ q, m = some q → hh ≤ q ∧ q ≤ len) ∧ K l hh m := by
  have sb : ∀ (x : V) (c : Value) (k : IntKind) (i : Int) (y : Nat) (code : BoundsCode), x = .i k i → VR C x c → 0 ≤ i → i ≤ y → (Instr.sliceBound c y code).run P C.w = .ok i.toNat C.w := by
    intro x c k i y code hx hv h0 h1
    subst hx
    obtain rfl := int_inv hv
    simp [Instr.sliceBound, asIntOf, h0, h1]
  unfold slcB at hk
  cases mx with
  | none =>
    cases cmx with
    | some _ => simp at h3'
    | none =>
      simp only at hk
      cases hi with
      | none =>
        cases chi with
        | some _ => simp at h2'
        | none =>
          simp only at hk
          cases lo with
          | none =>
            cases clo with
            | some _ => simp at h1'
            | none => exact ⟨0, len, none, by simp [Instr.sliceBounds], by omega, by omega, by simp, hk⟩
          | some v =>
            cases clo with
            | none => simp at h1'
            | some c =>
              cases v <;> simp only at hk
              case i k l =>
                have e := sb _ c k l len .sliceB rfl (h1 _ _ rfl rfl) hk.1 hk.2.1
                exact ⟨l.toNat, len, none, by simp [Instr.sliceBounds, e], by omega, by omega, by simp, hk.2.2⟩
              all_goals exact hk.elim
      | some vh =>
        cases chi with
        | none => simp at h2'
        | some ch =>
          cases vh <;> simp only at hk
          case i kh hh =>
            cases lo with
            | none =>
              cases clo with
              | some _ => simp at h1'
              | none =>
                have e := sb _ ch kh hh cap .sliceAcap rfl (h2 _ _ rfl rfl) hk.1 (by omega)
                exact ⟨0, hh.toNat, none, by simp [Instr.sliceBounds, e], by omega, by omega, by simp, hk.2.2⟩
            | some v =>
              cases clo with
              | none => simp at h1'
              | some c =>
                cases v <;> simp only at hk
                case i k l =>
                  have e := sb _ ch kh hh cap .sliceAcap rfl (h2 _ _ rfl rfl) (by omega) (by omega)
                  have e2 := sb _ c k l hh.toNat .sliceB rfl (h1 _ _ rfl rfl) hk.1 (by omega)
                  exact ⟨l.toNat, hh.toNat, none, by simp [Instr.sliceBounds, e, e2], by omega, by omega, by simp, hk.2.2.2⟩
                all_goals exact hk.elim
          all_goals exact hk.elim
  | some vm =>
    cases cmx with
    | none => simp at h3'
    | some cm =>
      cases vm <;> simp only at hk
      case i km m =>
        cases hi with
        | none => exact hk.elim
        | some vh =>
          cases chi with
          | none => simp at h2'
          | some ch =>
            cases vh <;> simp only at hk
            case i kh hh =>
              cases lo with
              | none =>
                cases clo with
                | some _ => simp at h1'
                | none =>
                  have e0 := sb _ cm km m cap .slice3Acap rfl (h3 _ _ rfl rfl) (by omega) (by omega)
                  have e := sb _ ch kh hh m.toNat .slice3B rfl (h2 _ _ rfl rfl) hk.1 (by omega)
                  exact ⟨0, hh.toNat, some m.toNat, by simp [Instr.sliceBounds, e0, e], by omega, by omega, fun q hq => by cases hq; omega, hk.2.2.2⟩
              | some v =>
                cases clo with
                | none => simp at h1'
                | some c =>
                  cases v <;> simp only at hk
                  case i k l =>
                    have e0 := sb _ cm km m cap .slice3Acap rfl (h3 _ _ rfl rfl) (by omega) (by omega)
                    have e := sb _ ch kh hh m.toNat .slice3B rfl (h2 _ _ rfl rfl) (by omega) (by omega)
                    have e2 := sb _ c k l hh.toNat .slice3C rfl (h1 _ _ rfl rfl) hk.1 (by omega)
                    exact ⟨l.toNat, hh.toNat, some m.toNat, by simp [Instr.sliceBounds, e0, e, e2], by omega, by omega, fun q hq => by cases hq; omega, hk.2.2.2.2⟩
                  all_goals exact hk.elim
            all_goals exact hk.elim
      all_goals exact hk.elim

theorem slc_sound (h : R C σ) {x : V} {c : Value} (hx : VR C x c) {t e : TypeId} {es : Nat} (ht : P.underlying t = some (.slice e)) (hs : szP P e = some es)
    {lo hi mx : Option V} {clo chi cmx : Option Value} (h1 : ∀ v c, lo = some v → clo = some c → VR C v c) (h1' : lo.isSome = clo.isSome)
    (h2 : ∀ v c, hi = some v → chi = some c → VR C v c) (h2' : hi.isSome = chi.isSome) (h3 : ∀ v c, mx = some v → cmx = some c → VR C v c) (h3' : mx.isSome = cmx.isSome)
    {K : V → Prop} (hk : slcK es x lo hi mx σ K) : Done C (fun v σ' => σ' = σ ∧ K v) ((Instr.sliceAt t c clo chi cmx).run P C.w) := by
  have key : ∀ (a : Option Addr) (len cap l hh m : Nat), (Instr.sliceBounds true len cap clo chi cmx).run P C.w = .ok (l, hh, m) C.w →
      (Instr.sliceAt t (.slice a len cap) clo chi cmx).run P C.w = .ok (.slice (if m = l then a else a.map (·.add (l * es))) (hh - l) (m - l)) C.w := by
    intro a len cap l hh m hb
    simp only [Instr.sliceAt, Sem.run_bind, run_underlying ht, Result.andThen_ok, Instr.slice, hb, run_sizeOf hs, Sem.run_pure]
  cases x <;> simp only [slcK] at hk
  case s id ver off len es' =>
    obtain ⟨rfl, hl, hk⟩ := hk
    obtain ⟨blk, bs, at_, cap, cc, t', rfl, hρ, hlc, hb, hsz, ha⟩ := slice_live (live_ver h hl) hx
    obtain ⟨l, hh, m, hrun, b1, b2, b3, hk⟩ := slcB_sound (P := P) hlc h1 h1' h2 h2' h3 h3' hk
    rw [key _ _ _ _ _ _ hrun]
    have hm : hh ≤ m.getD cap ∧ m.getD cap ≤ cap := by
      cases m with
      | none => simp; omega
      | some q => have := b3 q rfl; simp; omega
    by_cases hml : m.getD cap = l
    · rw [if_pos hml]
      refine Done.same h (.s _ _ _ _ _ blk bs at_ _ cc t' hρ (live_ver h hl) (by omega) hb ?_ (fun hne => by omega)) ⟨rfl, hk⟩
      have : l * es ≤ cap * es := Nat.mul_le_mul_right _ (by omega)
      have e0 : (m.getD cap - l) = 0 := by omega
      rw [e0]
      omega
    · rw [if_neg hml]
      simp only [Option.map_some, add_at]
      refine Done.same h (.s _ _ _ _ _ blk bs _ _ cc t' hρ (live_ver h hl) (by omega) hb ?_ (fun _ => by rw [ha (by omega)]; omega)) ⟨rfl, hk⟩
      have e1 : l * es + (m.getD cap - l) * es = (m.getD cap) * es := by rw [← Nat.add_mul]; congr 1; omega
      have e2 : (m.getD cap) * es ≤ cap * es := Nat.mul_le_mul_right _ hm.2
      omega
  case ss cells len full =>
    have fin : ∀ (a : Option Addr) (cap : Nat), len ≤ cap → (full = true → cap = len) → c = .slice a len cap →
        (∀ l n, l ≤ n → n ≤ len → ∀ cap', n - l ≤ cap' → (cap' = 0 ∨ cap' ≠ 0) → ∀ f, (f = true → cap' = n - l) → ∀ (b : Bool), (b = true → cap' = 0) → VR C (.ss ((cells.drop (l * es)).take ((n - l) * es)) (n - l) f) (.slice (if b then a else a.map (·.add (l * es))) (n - l) cap')) →
        Done C (fun v σ' => σ' = σ ∧ K v) ((Instr.sliceAt t c clo chi cmx).run P C.w) := by
      intro a cap hlc hf hc hV
      subst hc
      obtain ⟨l, hh, m, hrun, b1, b2, b3, hk⟩ := slcB_sound (P := P) hlc h1 h1' h2 h2' h3 h3' hk
      rw [key _ _ _ _ _ _ hrun]
      have hm : hh ≤ m.getD cap ∧ m.getD cap ≤ cap := by
        cases m with
        | none => simp; omega
        | some q => have := b3 q rfl; simp; omega
      have := hV l hh b1 b2 (m.getD cap - l) (by omega) (by omega) (fullOf m hh len full)
        (fun hE => by
          cases m with
          | none => simp only [fullOf, Bool.and_eq_true, decide_eq_true_eq] at hE; have := hf hE.1; simp; omega
          | some q => simp only [fullOf, decide_eq_true_eq] at hE; simp; omega) (decide (m.getD cap = l)) (fun hE => by simp at hE; omega)
      simp only [decide_eq_true_eq] at this
      exact Done.same h this ⟨rfl, hk⟩
    cases hx with
    | ss0 a cap =>
      refine fin a cap (by omega) (by simp) rfl (fun l n h1 h2 cap' h3 _ f hf b hb => ?_)
      obtain rfl : n = 0 := by omega
      obtain rfl : l = 0 := by omega
      simp only [List.drop_nil, List.take_nil, Nat.sub_self]
      cases f with
      | true => have := hf rfl; simp at this; subst this; exact .ssn _
      | false => exact .ss0 _ _
    | ssn a =>
      refine fin a 0 (by omega) (by simp) rfl (fun l n h1 h2 cap' h3 _ f hf b hb => ?_)
      obtain rfl : n = 0 := by omega
      obtain rfl : l = 0 := by omega
      simp only [List.drop_nil, List.take_nil, Nat.sub_self]
      cases f with
      | true => have := hf rfl; simp at this; subst this; exact .ssn _
      | false => exact .ss0 _ _
    | ss _ _ _ blk base cap cs hz hl h1' hc hv hlc hf =>
      refine fin (some ⟨blk, base, none⟩) cap hlc hf rfl (fun l n h1 h2 cap' h3 _ f hf' b hb => ?_)
      cases b with
      | true =>
        have := hb rfl
        have e0 : n - l = 0 := by omega
        rw [e0]
        simp only [Nat.zero_mul, List.take_zero, if_true]
        exact .ss [] 0 f blk base cap' [] hz rfl (by simp) (by simp) (by simp) (by omega) (fun hE => by have := hf' hE; omega)
      | false =>
        simp only [Bool.false_eq_true, if_false, Option.map_some, add_at]
        refine .ss _ _ f blk (base + l * es) cap' ((cs.drop (l * es)).take ((n - l) * es)) hz (by simp [hl]) (fun d hd => h1' d (List.mem_of_mem_drop (List.mem_of_mem_take hd))) (fun j d hd => ?_) (fun j x d hx hd => ?_) h3 hf'
        · rw [List.getElem?_take] at hd
          split at hd
          · rw [List.getElem?_drop] at hd
            rw [Nat.add_assoc]; exact hc _ d hd
          · cases hd
        · rw [List.getElem?_take] at hx hd
          split at hx
          · rename_i hj
            rw [if_pos hj] at hd
            rw [List.getElem?_drop] at hx hd
            exact hv _ x d hx hd
          · cases hx
  all_goals exact hk.elim

theorem sla_sound (h : R C σ) {x : V} {c : Value} (hx : VR C x c) {t e : TypeId} {n es : Nat} (ht : P.underlying t = some (.array n e)) (hs : szP P e = some es)
    {K : V → Prop} (hk : slaK n es x σ K) : Done C (fun v σ' => σ' = σ ∧ K v) ((Instr.sliceAt t c none none none).run P C.w) := by
  cases x <;> simp only [slaK] at hk
  case p id ver off =>
    split at hk
    · rename_i v cells ho
      obtain ⟨rfl, hoff, hk⟩ := hk
      obtain ⟨blk, bs, cc, t', rfl, hρ, hb, hl, h1, hv⟩ := ptr_row h ho hx
      have : (Instr.sliceAt t (.pointer (some ⟨blk, bs + off, none⟩)) none none none).run P C.w = .ok (.slice (some ⟨blk, bs + off, none⟩) n n) C.w := by
        simp only [Instr.sliceAt, Sem.run_bind, run_underlying ht, Result.andThen_ok, Instr.sureAddr, Sem.run_pure, Instr.sliceBounds, run_sizeOf hs, Nat.zero_mul, Nat.sub_zero, add_at, Nat.add_zero]
        split <;> rfl
      rw [this]
      exact Done.same h (.s _ _ _ _ _ blk bs _ n cc t' hρ (h.ver id _ ho) (Nat.le_refl _) hb (by omega) (fun _ => rfl)) ⟨rfl, hk⟩
    · exact hk.elim
  all_goals exact hk.elim

end
end Go.Ab
