/- The abstract layer, part 13: freezing. What an activation has made is cut off, and what is handed on becomes a pure value. -/
import Derived.Test.YtchmfamkpfaieaaAbC
set_option linter.unusedVariables false
set_option linter.unusedSimpArgs false
namespace Go.Ab
open Go

mutual
def V.pure : V → Bool
  | .u => true
  | .b _ => true
  | .i _ _ => true
  | .str _ => true
  | .np => true
  | .p _ _ _ => false
  | .sp cs _ => pureL cs
  | .s _ _ _ _ _ => false
  | .ss cs _ _ => pureL cs
  | .nm => true
  | .m _ => false
  | .sm es => pureM es
  | .nf => true
  | .f _ a b => pureL a && pureL b
  | .agg cs => pureL cs
  | .tup vs => pureL vs
def pureL : List V → Bool
  | [] => true
  | v :: r => v.pure && pureL r
def pureM : List (V × V) → Bool
  | [] => true
  | e :: r => pureE e && pureM r
def pureE : V × V → Bool
  | (a, b) => a.pure && b.pure
end

theorem pureL_all : ∀ {l : List V}, pureL l = true ↔ ∀ v ∈ l, v.pure = true
  | [] => by simp [pureL]
  | v :: r => by simp [pureL, pureL_all (l := r)]
theorem pureM_all : ∀ {l : List (V × V)}, pureM l = true ↔ ∀ e ∈ l, e.1.pure = true ∧ e.2.pure = true
  | [] => by simp [pureM]
  | (a, b) :: r => by simp [pureM, pureM_all (l := r), pureE]
theorem pureL_get {l : List V} (h : pureL l = true) {j : Nat} {x : V} (hx : l[j]? = some x) : x.pure = true := pureL_all.1 h x (List.mem_of_getElem? hx)

def frz : Nat → Nat → List O → V → V
  | 0, _, _, _ => .u
  | k + 1, n, σ, v =>
    if v.pure then v else
    match v with
    | .p id ver off => if id < n then .p id ver off else
      match σ[id]? with
      | some (.row ver' cells) => if ver' = ver then .sp (cells.map (frz k n σ)) off else .u
      | _ => .u
    | .s id ver off len es => if id < n then .s id ver off len es else
      match σ[id]? with
      | some (.row ver' cells) => if ver' = ver ∧ off + len * es ≤ cells.length then .ss (((cells.drop off).take (len * es)).map (frz k n σ)) len false else .u
      | _ => .u
    | .m id => if id < n then .m id else
      match σ[id]? with
      | some (.map es _) => .sm (es.map fun e => (frz k n σ e.2.1, frz k n σ e.2.2))
      | _ => .u
    | .sp cs off => .sp (cs.map (frz k n σ)) off
    | .ss cs len full => .ss (cs.map (frz k n σ)) len full
    | .sm es => .sm (es.map fun e => (frz k n σ e.1, frz k n σ e.2))
    | .f fn a b => .f fn (a.map (frz k n σ)) (b.map (frz k n σ))
    | .agg cs => .agg (cs.map (frz k n σ))
    | .tup cs => .tup (cs.map (frz k n σ))
    | v => v

def frzO (k n : Nat) (σ : List O) : O → O
  | .row ver cells => .row ver (cells.map (frz k n σ))
  | .map es clock => .map (es.map fun e => (e.1, frz k n σ e.2.1, frz k n σ e.2.2)) clock
  | .it mid since seen stepped => if mid < n then .it mid since seen stepped else .dead 0
  | .dead ver => .dead ver

def frzS (k n : Nat) (σ : List O) : List O := (σ.take n).map (frzO k n σ)

def Cx.trunc (C : Cx) (n : Nat) : Cx := { ρ := C.ρ.take n, vs := C.vs.take n, Z := fun b => C.Z b ∨ ∃ i p, n ≤ i ∧ C.ρ[i]? = some (b, p), w := C.w }

section
variable {C : Cx} {σ : List O} {n : Nat}

theorem take_get {α : Type} {l : List α} {n i : Nat} {x : α} (h : i < n) (hx : l[i]? = some x) : (l.take n)[i]? = some x := by
  rw [List.getElem?_take, if_pos h]; exact hx
theorem get_take {α : Type} {l : List α} {n i : Nat} {x : α} (hx : (l.take n)[i]? = some x) : i < n ∧ l[i]? = some x := by
  rw [List.getElem?_take] at hx
  split at hx
  · exact ⟨by assumption, hx⟩
  · cases hx

theorem VR.pure {C' : Cx} (hz : ∀ b, C.Z b → C'.Z b) (hw : C'.w = C.w) {x : V} {c : Value} (h : VR C x c) (hp : x.pure = true) : VR C' x c := by
  induction h with
  | u c => exact .u c
  | b x => exact .b x
  | i k n => exact .i k n
  | str s => exact .str s
  | np => exact .np
  | p => simp [V.pure] at hp
  | p0 => simp [V.pure] at hp
  | sp cells off blk base cs hz' hl h1 hc hv ih =>
    simp only [V.pure] at hp
    exact .sp cells off blk base cs (hz _ hz') hl h1 (fun j c hj => by rw [hw]; exact hc j c hj) (fun j x c hx hc' => ih j x c hx hc' (pureL_get hp hx))
  | s => simp [V.pure] at hp
  | s0 => simp [V.pure] at hp
  | ss0 a cap => exact .ss0 a cap
  | ssn a => exact .ssn a
  | ss cells len full blk base cap cs hz' hl h1 hc hv hlc hf ih =>
    simp only [V.pure] at hp
    exact .ss cells len full blk base cap cs (hz _ hz') hl h1 (fun j c hj => by rw [hw]; exact hc j c hj) (fun j x c hx hc' => ih j x c hx hc' (pureL_get hp hx)) hlc hf
  | nm => exact .nm
  | m => simp [V.pure] at hp
  | m0 => simp [V.pure] at hp
  | sm l blk es clock hz' hb hl hk hv ihk ihv =>
    simp only [V.pure] at hp
    exact .sm l blk es clock (hz _ hz') (by rw [hw]; exact hb) hl (fun j k v e hj he => ihk j k v e hj he (pureM_all.1 hp _ (List.mem_of_getElem? hj)).1)
      (fun j k v e hj he => ihv j k v e hj he (pureM_all.1 hp _ (List.mem_of_getElem? hj)).2)
  | nf => exact .nf
  | f fn first cap cf cc hl1 hl2 h1 h2 ih1 ih2 =>
    simp only [V.pure, Bool.and_eq_true] at hp
    exact .f fn first cap cf cc hl1 hl2 (fun j x c hx hc => ih1 j x c hx hc (pureL_get hp.1 hx)) (fun j x c hx hc => ih2 j x c hx hc (pureL_get hp.2 hx))
  | agg cells cs hl h1 hv ih =>
    simp only [V.pure] at hp
    exact .agg cells cs hl h1 (fun j x c hx hc => ih j x c hx hc (pureL_get hp hx))
  | tup vs cs hl hv ih =>
    simp only [V.pure] at hp
    exact .tup vs cs hl (fun j x c hx hc => ih j x c hx hc (pureL_get hp hx))

theorem trunc_wf (wf : Wf C) : Wf (C.trunc n) where
  len := by simp [Cx.trunc, wf.len]
  inj := fun i j b p q hi hj => wf.inj i j b p q (get_take hi).2 (get_take hj).2
  lt := fun i b p hi => wf.lt i b p (get_take hi).2
  zlt := fun b hb => by
    rcases hb with hb | ⟨i, p, _, hi⟩
    · exact wf.zlt b hb
    · exact wf.lt i b p hi
  zρ := fun i b p hi hb => by
    obtain ⟨h1, h2⟩ := get_take hi
    rcases hb with hb | ⟨j, q, hj, hj'⟩
    · exact wf.zρ i b p h2 hb
    · have := wf.inj i j b p q h2 hj'
      omega

theorem trunc_ext {C0 : Cx} (h : Ext C0 C) (wf0 : Wf C0) (hn : C0.vs.length ≤ n) : Ext C0 (C.trunc n) where
  os := h.os
  tape := h.tape
  output := h.output
  size := h.size
  frame := h.frame
  z := fun b hb => .inl (h.z b hb)
  nz := fun b hb => by
    rcases hb with hb | ⟨i, p, hi, hp⟩
    · exact h.nz b hb
    · rcases h.nρ i b p hp with ⟨q, hq⟩ | hs
      · have := (List.getElem?_eq_some_iff.1 hq).1
        have := wf0.len
        omega
      · exact .inr hs
  nρ := fun i b p hi => h.nρ i b p (get_take hi).2
  vs := fun i v hv => by
    obtain ⟨v', h1, h2⟩ := h.vs i v hv
    have := (List.getElem?_eq_some_iff.1 hv).1
    exact ⟨v', take_get (by omega) h1, h2⟩
  same := fun i v b p hv hv' hb => by
    have := (List.getElem?_eq_some_iff.1 hv).1
    obtain ⟨h1, h2⟩ := h.same i v b p hv (get_take hv').2 hb
    exact ⟨take_get (by omega) h1, h2⟩

theorem frz_sound (h : R C σ) : ∀ (k : Nat) {x : V} {c : Value}, VR C x c → VR (C.trunc n) (frz k n σ x) c := by
  intro k
  induction k with
  | zero => intro x c _; exact .u c
  | succ k ih =>
    intro x c hx
    unfold frz
    by_cases hp : x.pure = true
    · rw [if_pos hp]
      exact hx.pure (C' := C.trunc n) (fun b hb => Or.inl hb) rfl hp
    · rw [if_neg hp]
      have mapv : ∀ {xs : List V} {cs : List Value}, (∀ (j : Nat) (x : V) (c : Value), xs[j]? = some x → cs[j]? = some c → VR C x c) →
          ∀ (j : Nat) (x : V) (c : Value), (xs.map (frz k n σ))[j]? = some x → cs[j]? = some c → VR (C.trunc n) x c := by
        intro xs cs hv j x c hx hc
        rw [List.getElem?_map, Option.map_eq_some_iff] at hx
        obtain ⟨y, hy, rfl⟩ := hx
        exact ih (hv j y c hy hc)
      have mapa : ∀ {xs : List V} {cs : Array Value}, (∀ (j : Nat) (x : V) (c : Value), xs[j]? = some x → cs[j]? = some c → VR C x c) →
          ∀ (j : Nat) (x : V) (c : Value), (xs.map (frz k n σ))[j]? = some x → cs[j]? = some c → VR (C.trunc n) x c := by
        intro xs cs hv j x c hx hc
        rw [List.getElem?_map, Option.map_eq_some_iff] at hx
        obtain ⟨y, hy, rfl⟩ := hx
        exact ih (hv j y c hy hc)
      cases hx with
      | u c => exact .u c
      | b x => exact .b x
      | i k n => exact .i k n
      | str s => exact .str s
      | np => exact .np
      | p id ver off blk bs hρ hv =>
        simp only
        split
        · rename_i hlt
          exact .p id ver off blk bs (take_get hlt hρ) (take_get hlt hv)
        · rename_i hlt
          split
          · rename_i ver' cells ho
            split
            · rename_i hver
              have hOR := h.obj id _ blk bs ho hρ
              cases hOR with
              | row _ _ cc t hb hl h1 hvv =>
                refine .sp _ off blk bs (cc.toList.drop bs |>.take cells.length) (.inr ⟨id, bs, by omega, hρ⟩) ?_ ?_ ?_ ?_
                · simp; omega
                · intro c hc
                  exact h1 c (by simpa using List.mem_of_mem_drop (List.mem_of_mem_take hc))
                · intro j c hj
                  rw [List.getElem?_take] at hj
                  split at hj
                  · rw [List.getElem?_drop] at hj
                    have : cc[bs + j]? = some c := by simpa using hj
                    show C.w.cell? ⟨blk, bs + j, none⟩ = some c
                    simp [World.cell?, hb, this]
                  · cases hj
                · refine mapv (fun j x c hx hc => ?_)
                  rw [List.getElem?_take] at hc
                  split at hc
                  · rw [List.getElem?_drop] at hc
                    exact hvv j x c hx (by simpa using hc)
                  · cases hc
            · exact .u _
          · exact .u _
      | p0 id ver off v _ h1 hv hl =>
        simp only
        split
        · rename_i hlt
          exact .p0 id ver off v c h1 (take_get hlt hv) hl
        · split
          · rename_i ver' cells ho
            split
            · rename_i hver
              have := h.ver id _ ho
              rw [hv] at this
              simp only [O.ver, Option.some.injEq] at this
              omega
            · exact .u _
          · exact .u _
      | sp cells off blk base cs hz hl h1 hc hv =>
        exact .sp _ off blk base cs (.inl hz) (by simpa using hl) h1 hc (mapv hv)
      | s id ver off len es blk bs at_ cap cc t hρ hv hlc hb hs ha =>
        simp only
        split
        · rename_i hlt
          exact .s id ver off len es blk bs at_ cap cc t (take_get hlt hρ) (take_get hlt hv) hlc hb hs ha
        · rename_i hlt
          split
          · rename_i ver' cells ho
            split
            · rename_i hver
              have hOR := h.obj id _ blk bs ho hρ
              cases hOR with
              | row _ _ cc' t' hb' hl h1 hvv =>
                rw [hb] at hb'
                cases hb'
                by_cases hcap : cap = 0
                · have hl0 : len = 0 := by omega
                  subst hl0
                  simp only [Nat.zero_mul, List.take_zero, List.map_nil]
                  subst hcap
                  exact .ss0 _ _
                · have hat := ha hcap
                  subst hat
                  refine .ss _ len false blk (bs + off) cap (cc.toList.drop (bs + off) |>.take (len * es)) (.inr ⟨id, bs, by omega, hρ⟩) ?_ ?_ ?_ ?_ hlc (by simp)
                  · have h7 := hver.2
                    have : len * es ≤ cap * es := Nat.mul_le_mul_right _ hlc
                    simp; omega
                  · intro c hc
                    exact h1 c (by simpa using List.mem_of_mem_drop (List.mem_of_mem_take hc))
                  · intro j c hj
                    rw [List.getElem?_take] at hj
                    split at hj
                    · rw [List.getElem?_drop] at hj
                      have : cc[bs + off + j]? = some c := by simpa using hj
                      show C.w.cell? ⟨blk, bs + off + j, none⟩ = some c
                      simp [World.cell?, hb, this]
                    · cases hj
                  · refine mapv (fun j x c hx hc => ?_)
                    rw [List.getElem?_take] at hc hx
                    split at hc
                    · rename_i hj
                      rw [if_pos hj] at hx
                      rw [List.getElem?_drop] at hc hx
                      exact hvv (off + j) x c hx (by simpa [Nat.add_assoc] using hc)
                    · cases hc
            · exact .u _
          · exact .u _
      | s0 id ver off len es v _ h1 hv hl =>
        simp only
        split
        · rename_i hlt
          exact .s0 id ver off len es v c h1 (take_get hlt hv) hl
        · split
          · rename_i ver' cells ho
            split
            · rename_i hver
              have := h.ver id _ ho
              rw [hv] at this
              simp only [O.ver, Option.some.injEq] at this
              omega
            · exact .u _
          · exact .u _
      | ss0 a cap => exact .ss0 a cap
      | ssn a => exact .ssn a
      | ss cells len full blk base cap cs hz hl h1 hc hv hlc hf =>
        exact .ss _ len full blk base cap cs (.inl hz) (by simpa using hl) h1 hc (mapv hv) hlc hf
      | nm => exact .nm
      | m id blk bs hρ hv =>
        simp only
        split
        · rename_i hlt
          exact .m id blk bs (take_get hlt hρ) (take_get hlt hv)
        · rename_i hlt
          split
          · rename_i es clock ho
            have hOR := h.obj id _ blk bs ho hρ
            cases hOR with
            | map _ _ ces hb hl hvv =>
              refine .sm _ blk ces clock (.inr ⟨id, bs, by omega, hρ⟩) hb (by simpa using hl) ?_ ?_
              · intro j kk v e hj he
                rw [List.getElem?_map, Option.map_eq_some_iff] at hj
                obtain ⟨⟨b, k', v'⟩, hj, hE⟩ := hj
                cases hE
                exact ih (hvv j b k' v' e hj he).2.1
              · intro j kk v e hj he
                rw [List.getElem?_map, Option.map_eq_some_iff] at hj
                obtain ⟨⟨b, k', v'⟩, hj, hE⟩ := hj
                cases hE
                exact ih (hvv j b k' v' e hj he).2.2
          · exact .u _
      | m0 id v _ h1 hv hl =>
        simp only
        split
        · rename_i hlt
          exact .m0 id v c h1 (take_get hlt hv) hl
        · split
          · rename_i es clock ho
            have := h.ver id _ ho
            rw [hv] at this
            simp only [O.ver, Option.some.injEq] at this
            omega
          · exact .u _
      | sm l blk es clock hz hb hl hk hv =>
        refine .sm _ blk es clock (.inl hz) hb (by simpa using hl) ?_ ?_
        · intro j kk v e hj he
          rw [List.getElem?_map, Option.map_eq_some_iff] at hj
          obtain ⟨⟨k', v'⟩, hj, hE⟩ := hj
          cases hE
          exact ih (hk j k' v' e hj he)
        · intro j kk v e hj he
          rw [List.getElem?_map, Option.map_eq_some_iff] at hj
          obtain ⟨⟨k', v'⟩, hj, hE⟩ := hj
          cases hE
          exact ih (hv j k' v' e hj he)
      | nf => exact .nf
      | f fn first cap cf cc hl1 hl2 h1 h2 => exact .f fn _ _ cf cc (by simpa using hl1) (by simpa using hl2) (mapa h1) (mapa h2)
      | agg cells cs hl h1 hv => exact .agg _ cs (by simpa using hl) h1 (mapa hv)
      | tup vs cs hl hv => exact .tup _ cs (by simpa using hl) (mapa hv)

theorem frzS_sound (h : R C σ) (k : Nat) (hn : n ≤ σ.length) : R (C.trunc n) (frzS k n σ) where
  wf := trunc_wf h.wf
  len := by simp [frzS, Cx.trunc, h.len]
  ver := fun id o ho => by
    simp only [frzS, List.getElem?_map, Option.map_eq_some_iff] at ho
    obtain ⟨o', ho', rfl⟩ := ho
    obtain ⟨hlt, ho'⟩ := get_take ho'
    have := h.ver id o' ho'
    refine (take_get hlt this).trans ?_
    cases o' with
    | row => rfl
    | map => rfl
    | it mid since seen stepped => simp only [frzO]; split <;> rfl
    | dead => rfl
  obj := fun id o blk bs ho hb => by
    simp only [frzS, List.getElem?_map, Option.map_eq_some_iff] at ho
    obtain ⟨o', ho', rfl⟩ := ho
    obtain ⟨hlt, ho'⟩ := get_take ho'
    obtain ⟨_, hb⟩ := get_take hb
    have hOR := h.obj id o' blk bs ho' hb
    cases hOR with
    | row ver cells cc t hb hl h1 hv =>
      refine .row ver _ cc t hb (by simpa using hl) h1 (fun j x c hx hc => ?_)
      rw [List.getElem?_map, Option.map_eq_some_iff] at hx
      obtain ⟨y, hy, rfl⟩ := hx
      exact frz_sound h k (hv j y c hy hc)
    | map es clock ces hb hl hv =>
      refine .map _ clock ces hb (by simpa using hl) (fun j b kk v e hj he => ?_)
      rw [List.getElem?_map, Option.map_eq_some_iff] at hj
      obtain ⟨⟨b', k', v'⟩, hj, hE⟩ := hj
      cases hE
      obtain ⟨e1, e2, e3⟩ := hv j b' k' v' e hj he
      exact ⟨e1, frz_sound h k e2, frz_sound h k e3⟩
    | it mid since seen stepped mb h0 hm hb =>
      simp only [frzO]
      split
      · rename_i hmid
        refine .it mid since seen stepped mb h0 ?_ hb
        cases hm with
        | m _ _ bs' hρ hv => exact .m mid mb bs' (take_get hmid hρ) (take_get hmid hv)
        | m0 _ v _ h1 hv hl => exact .m0 mid v _ h1 (take_get hmid hv) hl
      · exact .dead 0
    | dead ver => exact .dead ver

end
end Go.Ab
