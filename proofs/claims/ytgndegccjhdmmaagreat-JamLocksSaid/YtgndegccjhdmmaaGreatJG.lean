/- What is generic of heaps, orders that are drawn, slices that grow (no program in it). -/
import Derived.Test.YtgndegccjhdmmaaGreatJA
set_option linter.unusedVariables false
set_option linter.unusedSimpArgs false
set_option maxHeartbeats 4000000
namespace Go.Ab
open Go Go.Proofs


@[simp] theorem get_del_ne : ∀ {env : Env} {s t : Nat}, s ≠ t → get (del env s) t = get env t
  | [], s, t, h => rfl
  | (u, v) :: r, s, t, h => by
    by_cases hu : u = s
    · subst hu
      rw [del_eq, get_ne h, get_del_ne h]
    · rw [del_ne hu]
      by_cases ht : u = t
      · subst ht; rw [get_eq, get_eq]
      · rw [get_ne ht, get_ne ht, get_del_ne h]

/-- A slice of whole numbers, frozen or not. -/
def SlI (σ : List O) (v : V) (l : List Int) : Prop := (∃ f, v = sl l f) ∨ ∃ id ver, v = .s id ver 0 l.length 1 ∧ σ[id]? = some (.row ver (ints l))
def PtI (σ : List O) (a : V) (x : Int) : Prop := ∀ C : Ct, C (.i .i64 x) σ → ld1C a σ C
theorem SlI.ss {σ : List O} {l : List Int} {f : Bool} : SlI σ (sl l f) l := .inl ⟨f, rfl⟩
theorem lenI {σ : List O} {v : V} {l : List Int} {C : Ct} (h : SlI σ v l) (hC : C (.i .i64 l.length) σ) : lenC v σ C := by
  rcases h with ⟨f, rfl⟩ | ⟨id, ver, rfl, hs⟩
  · simpa using hC
  · simp only [lenC, lenK, liveV, hs]
    exact ⟨rfl, hC⟩
theorem ixsI {σ : List O} {v : V} {l : List Int} {i : Nat} {x : Int} {C : Ct} (h : SlI σ v l) (hx : l[i]? = some x) (hC : ∀ a, PtI σ a x → C a σ) : ixsC 1 v (.i .i64 i) σ C := by
  have hlt := (List.getElem?_eq_some_iff.1 hx).1
  rcases h with ⟨f, rfl⟩ | ⟨id, ver, rfl, hs⟩
  · simp [hlt]
    refine hC _ fun C hC' => ?_
    simp [hx]
    exact hC'
  · simp [hs, hlt]
    refine hC _ fun C hC' => ?_
    simp [hs, hx]
    exact hC'

/-! ### Operations whose turn is drawn across others that change the heap -/
section
variable {P : Program} {Y : Yield} {n0 : Nat}
def drU (P : Program) (Y : Yield) (n0 : Nat) (s : IS) (us : List Nat) (r : List (IS × List Nat)) (j : Nat) (pend : List (IS × Env × V × List Nat)) (K : Kt) (md : Md) (env : Env) (σ : List O) (md' : Md) (env' : Env) (σ' : List O) : Prop :=
  md' = md ∧ (s.loud = false → σ' = σ) ∧ recheck P Y n0 j pend md σ' ∧ abDs P Y n0 r (j + 1) (if us.isEmpty then pend else (s, env, (match s.dst with | some d => get env' d | none => .u), us) :: pend) K md' env' σ'
theorem abDs_consU {s : IS} {us : List Nat} {r : List (IS × List Nat)} {j : Nat} {pend : List (IS × Env × V × List Nat)} {K : Kt} {md : Md} {env : Env} {σ : List O} : abDs P Y n0 ((s, us) :: r) j pend K md env σ = abS P Y n0 s (drU P Y n0 s us r j pend K md env σ) md env σ := (rfl)
def rcK (md : Md) (env : Env) (d : Option Nat) (v : V) (σ : List O) (md' : Md) (env' : Env) (σ' : List O) : Prop := md' = md ∧ env' = put env d v ∧ σ' = σ
theorem recheck_cons {s : IS} {env : Env} {v : V} {us : List Nat} {r : List (IS × Env × V × List Nat)} {j : Nat} {md : Md} {σ : List O} :
    recheck P Y n0 j ((s, env, v, us) :: r) md σ = ((if us.contains j then abS P Y n0 s (rcK md env s.dst v σ) md env σ else True) ∧ recheck P Y n0 j r md σ) := (rfl)
theorem recheck_nil {j : Nat} {md : Md} {σ : List O} : recheck P Y n0 j [] md σ = True := (rfl)
end

theorem ixsJ {σ : List O} {v : V} {l : List Int} {i : Int} {x : Int} {C : Ct} (h : SlI σ v l) (h0 : 0 ≤ i) (hx : l[i.toNat]? = some x) (hC : ∀ a, PtI σ a x → C a σ) : ixsC 1 v (.i .i64 i) σ C := by
  obtain ⟨k, rfl⟩ : ∃ k : Nat, i = k := ⟨i.toNat, by omega⟩
  exact ixsI h (by simpa using hx) hC
theorem Gr.sli {k : Nat} {σ : List O} {v : V} {l : List Int} (h : Gr k 1 σ v l.length (ints l)) : SlI σ v l := by
  rcases h.cases with ⟨h1, h2, rfl⟩ | ⟨id, ver, -, -, rfl, h3, -⟩
  · have : l = [] := List.eq_nil_of_length_eq_zero h1
    subst this
    exact .inl ⟨true, rfl⟩
  · exact .inr ⟨id, ver, rfl, h3⟩
/-- Two slices that grow, apart from one another. -/
def Dj (v w : V) : Prop := ∀ j, idOf v = some j → idOf w ≠ some j
theorem Grew.other {k es' n' : Nat} {v v' w : V} {σ σ' : List O} {cs' : List V} (g : Grew v v' σ σ') (hw : Gr k es' σ w n' cs') (hd : Dj v w) : Gr k es' σ' w n' cs' :=
  hw.keep fun j hk hj => g.keep j (hw.id_ge hj).2 (fun e => hd j e hj)
theorem Grew.dj {k es' n' : Nat} {v v' w : V} {σ σ' : List O} {cs' : List V} (g : Grew v v' σ σ') (hw : Gr k es' σ w n' cs') (hd : Dj v w) : Dj v' w := by
  intro j hj hw'
  rcases g.id with e | ⟨e1, e2⟩
  · exact hd j (by rw [← e]; exact hj) hw'
  · rw [e2] at hj
    cases hj
    have := (hw.id_ge hw').2
    omega
theorem Dj.symm {v w : V} (h : Dj v w) : Dj w v := fun j h1 h2 => h j h2 h1


theorem frz_row {k n id ver m es : Nat} {σ : List O} {cs : List V} (h : σ[id]? = some (.row ver cs)) (hn : n ≤ id) (hl : cs.length = m * es) (hp : pureL cs = true) : frz (k + 2) n σ (.s id ver 0 m es) = .ss cs m false := by
  rw [frz]
  simp only [V.pure, Bool.false_eq_true, if_false, Nat.not_lt.2 hn, h]
  rw [if_pos ⟨trivial, by simp [hl]⟩]
  have e : List.take (m * es) (List.drop 0 cs) = cs := by rw [List.drop_zero]; exact List.take_of_length_le (by omega)
  rw [e, map_frz hp]

theorem Fn_.specL {P : Program} {It : ItTy} (hm : P.follows .mixedOrders = true) (hIt : ItOK P It) {f : FuncId} {fn : Func} {ex : List Nat} {ic : IC} {rs : List IRes} (h : Fn_ P f fn ex ic rs)
    {args : List V} {σ : List O} {v : V} {σ' : List O} (hab : LtAll σ → ab P noY It σ.length ic (finK rs σ v σ') [] (finK rs σ v σ') (some 0) (entry 0 args) σ) : FSpec P f args σ v σ' := by
  refine ⟨⟨fn, h.hf, h.hn, ?_⟩, fun C cargs hR ha => (h.spec hm hIt (hab hR.ltAll)).2 C cargs hR ha⟩
  have hc := h.hc
  cases hb : fn.body with
  | none => rw [hb] at hc; cases hc
  | some c => rfl
theorem fin_lt {rs : List IRes} {md : Md} {env : Env} {σ0 g : List O} {v : V} (hl : LtAll σ0) (h : resK rs env (σ0 ++ g) fun vs => retV vs = v ∧ ∀ k n σ, frz (k + 1) n σ v = v) : finK rs σ0 v σ0 md env (σ0 ++ g) := by
  obtain ⟨k0, hk0⟩ := hl.cut
  exact resK_mono h (fun vs h => .inl ⟨k0 + 1, σ0.length, Nat.le_refl _, by simp, by rw [h.1]; exact h.2 _ _ _, .inl (hk0 (k0 + 1) (by omega) g)⟩)


theorem nodup_le : ∀ {n : Nat} {l : List Int}, l.Nodup → (∀ x ∈ l, 0 ≤ x ∧ x < (n : Int)) → l.length ≤ n
  | 0, [], _, _ => Nat.le_refl _
  | 0, x :: l, _, h => by have := h x (List.mem_cons_self ..); omega
  | n + 1, l, hn, h => by
    have ih := nodup_le (n := n) (l := l.erase (n : Int)) (hn.erase _) (fun x hx => by
      obtain ⟨h1, h2⟩ := hn.mem_erase_iff.1 hx
      have := h x h2
      omega)
    by_cases hm : (n : Int) ∈ l
    · rw [List.length_erase_of_mem hm] at ih; omega
    · rw [List.erase_of_not_mem hm] at ih; omega

theorem len5 {α : Type} {l : List α} (h : l.length = 5) : ∃ a b c d e, l = [a, b, c, d, e] := by match l, h with | [a, b, c, d, e], _ => exact ⟨a, b, c, d, e, rfl⟩
theorem o_some {o : List Int} {j : Nat} (h : j < o.length) : o[j]? = some (o.getD j 0) := by simp [List.getD_eq_getElem?_getD, List.getElem?_eq_getElem h]
theorem gd_l {l : List Int} {x : Int} {j : Nat} (h : j < l.length) : (l ++ [x]).getD j 0 = l.getD j 0 := by
  rw [List.getD_eq_getElem?_getD, List.getD_eq_getElem?_getD, List.getElem?_append_left h]
theorem gd_r {l : List Int} {x : Int} : (l ++ [x]).getD l.length 0 = x := by
  rw [List.getD_eq_getElem?_getD]; simp
end Go.Ab
