/- The abstract layer, part 28: maps whose keys are structs of whole numbers and whose values are whole numbers; a loop that ranges over a map and deletes some entries, in whatever order. -/
import Derived.Test.YtchmfamkpfaieaaAbS
set_option linter.unusedVariables false
set_option linter.unusedSimpArgs false
set_option maxHeartbeats 1000000
namespace Go.Ab
open Go

/-! ### Entries -/
abbrev KnG := List (List Int × Int)
abbrev TG := List (Nat × (List Int × Int))
def keyG (q : IntKind) (k : List Int) : V := .agg (k.map (V.i q))
def entG (q qv : IntKind) (e : List Int × Int) : V × V := (keyG q e.1, .i qv e.2)
def tG : Nat → KnG → TG
  | _, [] => []
  | k, e :: r => (k, e) :: tG (k + 1) r
def encG (q qv : IntKind) (p : Nat × (List Int × Int)) : Nat × V × V := (p.1, keyG q p.2.1, .i qv p.2.2)
def mapG (q qv : IntKind) (l : KnG) : O := .map ((tG 0 l).map (encG q qv)) l.length
@[simp] theorem mapG_ver {q qv : IntKind} {l : KnG} : (mapG q qv l).ver = 0 := rfl

theorem intsK_map {q : IntKind} : ∀ {k : List Int}, intsK q (k.map (V.i q)) = some k
  | [] => rfl
  | a :: k => by simp [intsK, intsK_map (k := k)]
theorem keyG_of {q : IntKind} {n : Nat} {k : List Int} (h : k.length = n) (hn : n ≠ 0) : keyOf q n (keyG q k) = some k := by
  simp only [keyG, keyOf, List.length_map]
  rw [if_pos ⟨h, hn⟩, intsK_map]
@[simp] theorem keyG_pure {q : IntKind} {k : List Int} : (keyG q k).pure = true := by
  simp only [keyG, V.pure, pureL_all]
  intro v hv
  obtain ⟨a, -, rfl⟩ := List.mem_map.1 hv
  rfl

theorem tG_append {a b : KnG} : ∀ {k : Nat}, tG k (a ++ b) = tG k a ++ tG (k + a.length) b := by
  induction a with
  | nil => intro k; simp [tG]
  | cons e r ih => intro k; simp only [List.cons_append, tG, ih, List.length_cons]; congr 3; omega
theorem tG_lt {a : KnG} : ∀ {k : Nat} {p}, p ∈ tG k a → k ≤ p.1 ∧ p.1 < k + a.length ∧ p.2 ∈ a := by
  induction a with
  | nil => intro k p h; simp [tG] at h
  | cons e r ih =>
    intro k p h
    simp only [tG, List.mem_cons] at h
    rcases h with rfl | h
    · simp
    · obtain ⟨h1, h2, h3⟩ := ih h
      simp only [List.length_cons, List.mem_cons]
      exact ⟨by omega, by omega, .inr h3⟩
theorem tG_born {a : KnG} : ∀ {k : Nat}, ((tG k a).map (·.1)).Nodup := by
  induction a with
  | nil => intro k; simp [tG]
  | cons e r ih =>
    intro k
    simp only [tG, List.map_cons, List.nodup_cons]
    refine ⟨fun h => ?_, ih⟩
    obtain ⟨p, hp, hE⟩ := List.mem_map.1 h
    have := (tG_lt hp).1
    omega
theorem tG_snd {a : KnG} : ∀ {k : Nat}, (tG k a).map (·.2) = a := by
  induction a with
  | nil => intro k; rfl
  | cons e r ih => intro k; simp [tG, ih]
theorem tG_filter {q qv : IntKind} {p : (List Int × Int) → Bool} : ∀ {l : KnG} {k : Nat}, (((tG k l).filter fun x => p x.2).map fun x => (keyG q x.2.1, V.i qv x.2.2)) = (l.filter p).map (entG q qv) := by
  intro l
  induction l with
  | nil => intro k; rfl
  | cons e l ih =>
    intro k
    simp only [tG, List.filter_cons]
    split
    · simp only [List.map_cons, ih]; rfl
    · exact ih

/-- All keys have so many numbers. -/
def KeysN (n : Nat) (l : KnG) : Prop := ∀ e ∈ l, e.1.length = n

theorem keysOK_G {q qv : IntKind} {n : Nat} {l : TG} (h : ∀ p ∈ l, p.2.1.length = n) (hn : n ≠ 0) : keysOK q n ((l.map (encG q qv)).map (·.2)) := by
  intro e he
  simp only [List.map_map, List.mem_map] at he
  obtain ⟨p, hp, rfl⟩ := he
  exact ⟨_, keyG_of (h p hp) hn⟩
theorem idxM_G {q qv : IntKind} {n : Nat} {k : List Int} (hn : n ≠ 0) : ∀ {l : TG}, (∀ p ∈ l, p.2.1.length = n) → idxM q n k ((l.map (encG q qv)).map (·.2)) = l.findIdx? (fun p => p.2.1 == k) := by
  intro l
  induction l with
  | nil => intro _; rfl
  | cons p l ih =>
    intro h
    have e : (encG q qv p :: l.map (encG q qv)).map (·.2) = (keyG q p.2.1, V.i qv p.2.2) :: (l.map (encG q qv)).map (·.2) := rfl
    rw [List.map_cons, e]
    simp only [idxM, keyG_of (h p (List.mem_cons_self ..)) hn, ih (fun p' hp' => h p' (List.mem_cons_of_mem _ hp')), List.findIdx?_cons]
    by_cases hk : p.2.1 = k
    · subst hk; simp
    · have h'' : (p.2.1 == k) = false := by simpa using hk
      simp only [Option.some.injEq, hk, if_false, h'']
      rfl

theorem mset_G {q qv : IntKind} {n : Nat} {l : KnG} {k : List Int} {v : Int} {σ : List O} {id : Nat} {C : V → List O → Prop} (hn : n ≠ 0) (h : σ[id]? = some (mapG q qv l)) (hl : KeysN n l) (hk : k.length = n) (hnew : ∀ e ∈ l, e.1 ≠ k)
    (hC : C .u (σ.set id (mapG q qv (l ++ [(k, v)])))) : msetK q n (.m id) (keyG q k) (.i qv v) σ C := by
  have hkl : ∀ p ∈ tG 0 l, p.2.1.length = n := fun p hp => hl _ (tG_lt hp).2.2
  have hi := idxM_G (q := q) (qv := qv) (k := k) hn hkl
  have hnone : (tG 0 l).findIdx? (fun p => p.2.1 == k) = none := by
    rw [List.findIdx?_eq_none_iff]
    intro p hp
    have := hnew p.2 (tG_lt hp).2.2
    simpa using this
  rw [hnone] at hi
  simp only [msetK, keyG_of hk hn, h, mapG, hi]
  refine ⟨keysOK_G hkl hn, ?_⟩
  have e : (tG 0 l).map (encG q qv) ++ [(l.length, keyG q k, V.i qv v)] = (tG 0 (l ++ [(k, v)])).map (encG q qv) := by
    rw [tG_append, List.map_append]
    simp [tG, encG]
  rw [e]
  simpa [mapG] using hC

/-- The index of an entry that is there. -/
theorem mset_old {q qv : IntKind} {n : Nat} {l : KnG} {k : List Int} {v : Int} {σ : List O} {id i : Nat} {C : V → List O → Prop} (hn : n ≠ 0) (h : σ[id]? = some (mapG q qv l)) (hl : KeysN n l) (hk : k.length = n)
    (hi : l.findIdx? (fun e => e.1 == k) = some i) (hC : C .u (σ.set id (mapG q qv (l.set i (k, v))))) : msetK q n (.m id) (keyG q k) (.i qv v) σ C := by
  have hkl : ∀ p ∈ tG 0 l, p.2.1.length = n := fun p hp => hl _ (tG_lt hp).2.2
  have hix := idxM_G (q := q) (qv := qv) (k := k) hn hkl
  have hfi : ∀ (m : Nat) (l : KnG), (tG m l).findIdx? (fun p => p.2.1 == k) = l.findIdx? (fun e => e.1 == k) := by
    intro m l
    induction l generalizing m with
    | nil => rfl
    | cons e l ih => simp only [tG, List.findIdx?_cons, ih]
  rw [hfi, hi] at hix
  simp only [msetK, keyG_of hk hn, h, mapG, hix]
  refine ⟨keysOK_G hkl hn, ?_⟩
  have hmod : ∀ (m : Nat) (l : KnG) (i : Nat), ((tG m l).map (encG q qv)).modify i (fun e => (e.1, keyG q k, V.i qv v)) = (tG m (l.set i (k, v))).map (encG q qv) := by
    intro m l
    induction l generalizing m with
    | nil => intro i; simp [tG]
    | cons e l ih =>
      intro i
      cases i with
      | zero => simp [tG, encG]
      | succ i => simp only [tG, List.map_cons, List.modify_succ_cons, List.set_cons_succ, ih]
  rw [hmod]
  have : l.length = (l.set i (k, v)).length := by simp
  rw [this]
  exact hC

theorem nodupInj {α β : Type} {f : α → β} : ∀ {l : List α}, (l.map f).Nodup → ∀ {a b : α}, a ∈ l → b ∈ l → f a = f b → a = b
  | [], _, _, _, h, _, _ => by cases h
  | x :: l, hn, a, b, ha, hb, h => by
    simp only [List.map_cons, List.nodup_cons] at hn
    rcases List.mem_cons.1 ha with h1 | h1 <;> rcases List.mem_cons.1 hb with h2 | h2
    · rw [h1, h2]
    · exact absurd (by rw [← h1, h]; exact List.mem_map_of_mem h2) hn.1
    · exact absurd (by rw [← h2, ← h]; exact List.mem_map_of_mem h1) hn.1
    · exact nodupInj hn.2 h1 h2 h
theorem eraseP_uniq {α β : Type} [DecidableEq β] {f : α → β} {l : List α} {k : β} (hn : (l.map f).Nodup) : l.eraseP (fun p => decide (f p = k)) = l.filter (fun p => !decide (f p = k)) := by
  induction l with
  | nil => rfl
  | cons a l ih =>
    simp only [List.map_cons, List.nodup_cons] at hn
    simp only [List.eraseP_cons, List.filter_cons]
    by_cases h : f a = k
    · simp only [h, decide_true, cond_true, Bool.not_true]
      have : l.filter (fun p => !decide (f p = k)) = l := by
        rw [List.filter_eq_self]
        intro x hx
        simp only [Bool.not_eq_true', decide_eq_false_iff_not]
        intro hE
        exact hn.1 (by rw [h, ← hE]; exact List.mem_map_of_mem hx)
      simp [this]
    · simp only [h, decide_false, cond_false, Bool.not_false, if_true]
      rw [ih hn.2]
theorem bornG {q qv : IntKind} {l : TG} (hn : (l.map (·.1)).Nodup) {p} (hp : p ∈ l) : (l.map (encG q qv)).find? (fun e => e.1 == p.1) = some (encG q qv p) := by
  induction l with
  | nil => cases hp
  | cons a l ih =>
    simp only [List.map_cons, List.nodup_cons] at hn
    rw [List.map_cons, List.find?_cons]
    rcases List.mem_cons.1 hp with rfl | hp
    · have : ((encG q qv p).1 == p.1) = true := by simp [encG]
      rw [this]
    · have : ((encG q qv a).1 == p.1) = false := by
        simp only [encG, beq_eq_false_iff_ne]
        intro hE
        exact hn.1 (by rw [hE]; exact List.mem_map_of_mem hp)
      rw [this]
      exact ih hn.2 hp

theorem mdel_G {q qv : IntKind} {n : Nat} {σ : List O} {id c : Nat} {l : TG} {k : List Int} {C : V → List O → Prop} (hn0 : n ≠ 0) (h : σ[id]? = some (.map (l.map (encG q qv)) c)) (hl : ∀ p ∈ l, p.2.1.length = n) (hn : (l.map (·.2.1)).Nodup) (hm : k ∈ l.map (·.2.1))
    (hC : C .u (σ.set id (.map ((l.filter fun p => !decide (p.2.1 = k)).map (encG q qv)) c))) : mdelK q n (.m id) (keyG q k) σ C := by
  have hi := idxM_G (q := q) (qv := qv) (k := k) hn0 hl
  have hk : k.length = n := by
    obtain ⟨p, hp, rfl⟩ := List.mem_map.1 hm
    exact hl p hp
  simp only [mdelK, keyG_of hk hn0, h, hi]
  refine ⟨keysOK_G hl hn0, ?_⟩
  cases hf : l.findIdx? (fun p => p.2.1 == k) with
  | none =>
    rw [List.findIdx?_eq_none_iff] at hf
    obtain ⟨p, hp, hE⟩ := List.mem_map.1 hm
    have := hf p hp
    simp [hE] at this
  | some i =>
    simp only
    have h1 : l.eraseIdx i = l.eraseP (fun p => p.2.1 == k) := by rw [List.eraseP_eq_eraseIdx, hf]
    have h2 : l.eraseP (fun p => p.2.1 == k) = l.filter fun p => !decide (p.2.1 = k) := by
      have := eraseP_uniq (f := fun p : Nat × (List Int × Int) => p.2.1) (k := k) hn
      rw [← this]
      congr 1
      funext p
      rw [Bool.eq_iff_iff]
      simp
    rw [← h2, ← h1] at hC
    have h3 : (l.map (encG q qv)).eraseIdx i = (l.eraseIdx i).map (encG q qv) := by simp [List.eraseIdx_eq_take_drop_succ, List.map_take, List.map_drop]
    rw [h3]
    exact hC

/-! ### What speaks of nothing -/
mutual
theorem pure_lt {n : Nat} : ∀ {v : V}, v.pure = true → Lt n v
  | .u, _ => .u
  | .b x, _ => .b x
  | .i k x, _ => .i k x
  | .str s, _ => .str s
  | .np, _ => .np
  | .p _ _ _, h => by simp [V.pure] at h
  | .sp cells off, h => .sp _ _ (pureL_lt (by simpa only [V.pure] using h))
  | .s _ _ _ _ _, h => by simp [V.pure] at h
  | .ss cells len full, h => .ss _ _ _ (pureL_lt (by simpa only [V.pure] using h))
  | .nm, _ => .nm
  | .m _, h => by simp [V.pure] at h
  | .sm es, h => .sm _ (fun e he => (pureM_lt (by simpa only [V.pure] using h) e he).1) (fun e he => (pureM_lt (by simpa only [V.pure] using h) e he).2)
  | .nf, _ => .nf
  | .f fn a b, h => .f _ _ _ (pureL_lt (by simp only [V.pure, Bool.and_eq_true] at h; exact h.1)) (pureL_lt (by simp only [V.pure, Bool.and_eq_true] at h; exact h.2))
  | .agg cells, h => .agg _ (pureL_lt (by simpa only [V.pure] using h))
  | .tup vs, h => .tup _ (pureL_lt (by simpa only [V.pure] using h))
theorem pureL_lt {n : Nat} : ∀ {l : List V}, pureL l = true → ∀ x ∈ l, Lt n x
  | [], _, x, hx => by cases hx
  | v :: r, h, x, hx => by
    simp only [pureL, Bool.and_eq_true] at h
    rcases List.mem_cons.1 hx with h1 | h1
    · rw [h1]; exact pure_lt h.1
    · exact pureL_lt h.2 x h1
theorem pureM_lt {n : Nat} : ∀ {l : List (V × V)}, pureM l = true → ∀ e ∈ l, Lt n e.1 ∧ Lt n e.2
  | [], _, e, he => by cases he
  | (a, b) :: r, h, e, he => by
    simp only [pureM, pureE, Bool.and_eq_true] at h
    rcases List.mem_cons.1 he with h1 | h1
    · rw [h1]; exact ⟨pure_lt h.1.1, pure_lt h.1.2⟩
    · exact pureM_lt h.2 e h1
end

/-! ### The loop -/
theorem nxtG {σ : List O} {id mid since : Nat} {seen : List Nat} {es : List (Nat × V × V)} {C : V → List O → Prop} (h1 : σ[id]? = some (.it mid since seen since)) (h2 : σ[mid]? = some (.map es since)) (hb : ∀ e ∈ es, e.1 < since)
    (hend : (∀ e ∈ es, e.1 ∈ seen) → C (.tup [.b false]) σ) (hgo : ∀ e ∈ es, e.1 ∉ seen → C (.tup [.b true, e.2.1, e.2.2]) (σ.set id (.it mid since (seen ++ [e.1]) since))) : nxtK (.p id 0 0) σ C := by
  simp only [nxtK, h1, h2]
  exact ⟨trivial, trivial, trivial, trivial, hb, hend, hgo⟩
theorem entG_K {σ : List O} {id mid since stepped b : Nat} {seen : List Nat} {es : List (Nat × V × V)} {C : V → List O → Prop} {e : Nat × V × V} (h1 : σ[id]? = some (.it mid since (seen ++ [b]) stepped)) (h2 : σ[mid]? = some (.map es stepped))
    (hf : es.find? (fun e => e.1 == b) = some e) (hC : C (.tup [e.2.1, e.2.2]) σ) : entC (.p id 0 0) σ C := by
  simp only [entC, entK, h1, h2, List.getLast?_append, List.getLast?_singleton, Option.some_or, hf]
  exact ⟨trivial, trivial, trivial, hC⟩
theorem rngG {σ : List O} {id c : Nat} {es : List (Nat × V × V)} {C : V → List O → Prop} (h : σ[id]? = some (.map es c)) (hC : C (.p σ.length 0 0) (σ ++ [.it id c [] c])) : rngK (.m id) σ C := by
  simp only [rngK, h]; exact hC

/-- The heap of such a loop: what stands ahead of the map, the map, what stands behind it, the iterator. -/
def rdH (q qv : IntKind) (σa σb : List O) (c : Nat) (es : TG) (seen : List Nat) : List O :=
  σa ++ .map (es.map (encG q qv)) c :: (σb ++ [.it σa.length c seen c])
def rdI (σa σb : List O) : Nat := σa.length + 1 + σb.length

theorem rdH_len {q qv : IntKind} {σa σb : List O} {c : Nat} {es : TG} {seen : List Nat} : (rdH q qv σa σb c es seen).length = rdI σa σb + 1 := by simp [rdH, rdI]; omega
theorem rdH_map {q qv : IntKind} {σa σb g : List O} {c : Nat} {es : TG} {seen : List Nat} : (rdH q qv σa σb c es seen ++ g)[σa.length]? = some (.map (es.map (encG q qv)) c) := by
  rw [List.getElem?_append_left (by rw [rdH_len]; unfold rdI; omega)]
  simp [rdH]
theorem rdH_it {q qv : IntKind} {σa σb g : List O} {c : Nat} {es : TG} {seen : List Nat} : (rdH q qv σa σb c es seen ++ g)[rdI σa σb]? = some (.it σa.length c seen c) := by
  rw [List.getElem?_append_left (by rw [rdH_len]; omega)]
  unfold rdH rdI
  rw [List.getElem?_append_right (by omega)]
  have : σa.length + 1 + σb.length - σa.length = σb.length + 1 := by omega
  rw [this, List.getElem?_cons_succ]
  simp
theorem rdH_setit {q qv : IntKind} {σa σb g : List O} {c : Nat} {es : TG} {seen seen' : List Nat} : (rdH q qv σa σb c es seen ++ g).set (rdI σa σb) (.it σa.length c seen' c) = rdH q qv σa σb c es seen' ++ g := by
  rw [List.set_append_left _ _ (by rw [rdH_len]; omega)]
  congr 1
  unfold rdH rdI
  rw [List.set_append_right _ _ (by omega)]
  have : σa.length + 1 + σb.length - σa.length = σb.length + 1 := by omega
  rw [this, List.set_cons_succ]
  rw [List.set_append_right _ _ (by omega)]
  simp
theorem rdH_setmap {q qv : IntKind} {σa σb g : List O} {c : Nat} {es es' : TG} {seen : List Nat} : (rdH q qv σa σb c es seen ++ g).set σa.length (.map (es'.map (encG q qv)) c) = rdH q qv σa σb c es' seen ++ g := by
  rw [List.set_append_left _ _ (by rw [rdH_len]; unfold rdI; omega)]
  congr 1
  unfold rdH
  rw [List.set_append_right _ _ (by omega)]
  simp

theorem env_deep {n : Nat} : ∀ {e : Env}, (∀ p ∈ e, Lt n p.2) → ∃ k0, ∀ k, k0 ≤ k → ∀ σ, frzE k n σ e = e
  | [], _ => ⟨0, by simp [frzE]⟩
  | (t, v) :: r, h => by
    obtain ⟨a, ha⟩ := frz_lt (h (t, v) (List.mem_cons_self ..))
    obtain ⟨b, hb⟩ := env_deep (e := r) (fun p hp => h p (List.mem_cons_of_mem _ hp))
    refine ⟨max a b, fun k hk σ => ?_⟩
    have h2 := hb k (by omega) σ
    have h1 := ha k (by omega) σ
    simp only [frzE, List.map_cons] at h2 ⊢
    rw [h1, h2]

theorem get_frzE' {k n : Nat} {σ : List O} {t : Nat} : ∀ {env : Env}, get (frzE k n σ env) t = frz k n σ (get env t)
  | [] => by cases k <;> rfl
  | (s, v) :: r => by
    show get ((s, frz k n σ v) :: frzE k n σ r) t = _
    simp only [get]
    split
    · rfl
    · exact get_frzE'
theorem keep_frzE {k n : Nat} {σ : List O} {env : Env} : ∀ {l : List Nat}, keep (frzE k n σ env) l = frzE k n σ (keep env l)
  | [] => rfl
  | t :: l => by
    show (t, get (frzE k n σ env) t) :: keep (frzE k n σ env) l = (t, frz k n σ (get env t)) :: frzE k n σ (keep env l)
    rw [get_frzE', keep_frzE]

def rdInv (q qv : IntKind) (σa σb : List O) (l : KnG) (d : List Int × Int → Bool) (envH : Env) (m : Nat) (env : Env) (σ : List O) : Prop :=
  ∃ seen : List Nat, ((tG 0 l).filter fun p => decide (p.1 ∉ seen)).length = m ∧ env = envH ∧ σ = rdH q qv σa σb l.length ((tG 0 l).filter fun p => !decide (p.1 ∈ seen) || !d p.2) seen

section
variable {P : Program} {Y : Yield} {It : ItTy} {n0 : Nat} {K : Kt} {E : List (Nat × Kt)} {Rt : Kt} {md : Md} {env : Env} {σ : List O}

/-- For k, v := range m { .. if d(k, v) { delete(m, k) } }: whatever the order, what is left are the entries without d. -/
theorem rangeDel {q qv : IntKind} {n : Nat} {σa σb : List O} {l : KnG} {d : List Int × Int → Bool} {envH : Env} {live lv : List Nat} {ti t1 t2 e bk : Nat} {rest : IC}
    (hn : n ≠ 0) (hl : KeysN n l) (hnd : (l.map (·.1)).Nodup) (hn0 : n0 ≤ rdI σa σb + 1) (hLt : ∀ o ∈ σa ++ σb, LtO (rdI σa σb + 1) o) (hLe : ∀ p ∈ envH, Lt (rdI σa σb + 1) p.2) (hti : get envH ti = .p (rdI σa σb) 0 0)
    (henv : keep env live = envH) (hσ : σ = rdH q qv σa σb l.length (tG 0 l) [])
    (hdone : ∀ seen, exitK E e md (keep (put (put envH (some t1) (.tup [.b false])) (some t2) (.b false)) lv) (rdH q qv σa σb l.length ((tG 0 l).filter fun p => !d p.2) seen))
    (hround : ∀ (es : TG) (seen : List Nat) (p : Nat × (List Int × Int)), p ∈ es → (∀ x ∈ es, x ∈ tG 0 l) → p.2 ∈ l →
      ∀ K' : Kt, (∀ env' g es', keep env' live = envH → es' = (if d p.2 then es.filter (fun x => !decide (x.2.1 = p.2.1)) else es) → K' md env' (rdH q qv σa σb l.length es' (seen ++ [p.1]) ++ g)) →
      ab P Y It n0 rest K' ((bk, K') :: E) Rt md (keep (put (put envH (some t1) (.tup [.b true, keyG q p.2.1, .i qv p.2.2])) (some t2) (.b true)) lv) (rdH q qv σa σb l.length es (seen ++ [p.1])))
    (ht2 : t2 ∈ lv) :
    ab P Y It n0 (.loop (some live) (.seq (.reg [.op (some t1) none (.nxt (.t ti)), .op (some t2) none (.ext 0 (.t t1))] (some lv)) (.seq (.cond (.t t2) .skip (.exit e)) (.block bk rest)))) K E Rt md env σ := by
  subst hσ
  have hN : ∀ {es seen}, (rdH q qv σa σb l.length es seen).length = rdI σa σb + 1 := rdH_len
  -- how deep
  obtain ⟨k0, hk0⟩ := frzL_lt (n := rdI σa σb + 1) (l := σa) (fun o ho => hLt o (List.mem_append_left _ ho))
  obtain ⟨k1, hk1⟩ := frzL_lt (n := rdI σa σb + 1) (l := σb) (fun o ho => hLt o (List.mem_append_right _ ho))
  obtain ⟨k2, hk2⟩ := env_deep (n := rdI σa σb + 1) hLe
  have hcut : ∀ es seen g, frzS (max (max k0 k1) k2 + 1) (rdI σa σb + 1) (rdH q qv σa σb l.length es seen ++ g) = rdH q qv σa σb l.length es seen := by
    intro es seen g
    rw [frzS, List.take_left' hN]
    unfold rdH
    rw [List.map_append, hk0 _ (by omega), List.map_cons, List.map_append, hk1 _ (by omega), List.map_singleton]
    congr 2
    · simp only [frzO, List.map_map]
      congr 1
      refine List.map_congr_left (fun p _ => ?_)
      simp [encG]
    · congr 1
      simp only [frzO]
      rw [if_pos (by unfold rdI; omega)]
  refine ab_loop_k (rdInv q qv σa σb l d envH) _ ⟨[], rfl, henv, by simp [List.filter_eq_self.2]⟩ ?_
  rintro m env σ ⟨seen, hm, rfl, rfl⟩ K' hK'
  generalize hes : ((tG 0 l).filter fun p => !decide (p.1 ∈ seen) || !d p.2) = es
  have hsub : ∀ x ∈ es, x ∈ tG 0 l := fun x hx => by rw [← hes] at hx; exact (List.mem_filter.1 hx).1
  refine ab_seq_k fun K1 h1 => ?_
  simp only [ab_reg, abSs_cons, abS_op, evE_nxt, ev_t, hti]
  have hit := rdH_it (q := q) (qv := qv) (σa := σa) (σb := σb) (g := []) (c := l.length) (es := es) (seen := seen)
  have hmp := rdH_map (q := q) (qv := qv) (σa := σa) (σb := σb) (g := []) (c := l.length) (es := es) (seen := seen)
  rw [List.append_nil] at hit hmp
  have g1 : ∀ v : V, get ((t1, v) :: del env t1) t1 = v := fun v => get_eq
  refine nxtG hit hmp ?_ ?_ ?_
  · intro x hx
    obtain ⟨p, hp, rfl⟩ := List.mem_map.1 hx
    have := (tG_lt (hsub p hp)).2.1
    simpa [encG] using this
  · intro hall
    simp only [kput_eq, abSs_cons, abS_op, evE_ext, ev_t, put_some, g1, extC, extK]
    refine ⟨by simp, ?_⟩
    simp only [List.getD_cons_zero, abSs_nil, keepK_eq, keepO_some]
    refine h1 _ _ _ ?_
    refine ab_seq_k fun K2 h2 => ?_
    have hg2 : get (keep ((t2, V.b false) :: del ((t1, V.tup [.b false]) :: del env t1) t2) lv) t2 = .b false := by
      rw [get_keep, if_pos ht2, get_eq]
    refine ab_cond_of (by rw [ev_t]; exact hg2) (fun h => by cases h) (fun _ => ?_)
    rw [ab_exit]
    have hf : es = (tG 0 l).filter fun p => !d p.2 := by
      rw [← hes]
      refine List.filter_congr (fun p hp => ?_)
      cases hd : d p.2 with
      | false => simp
      | true =>
        by_cases hs : p.1 ∈ seen
        · simp [hs]
        · exfalso
          refine hs (hall (encG q qv p) (List.mem_map.2 ⟨p, ?_, rfl⟩))
          rw [← hes]
          exact List.mem_filter.2 ⟨hp, by simp [hs]⟩
    rw [hf]
    exact hdone seen
  · intro x hx hns
    obtain ⟨p, hp, rfl⟩ := List.mem_map.1 hx
    have hpt := hsub p hp
    have hpl := (tG_lt hpt).2.2
    have hset := rdH_setit (q := q) (qv := qv) (σa := σa) (σb := σb) (g := []) (c := l.length) (es := es) (seen := seen) (seen' := seen ++ [p.1])
    rw [List.append_nil, List.append_nil] at hset
    have hset' : (rdH q qv σa σb l.length es seen).set (rdI σa σb) (.it σa.length l.length (seen ++ [(encG q qv p).1]) l.length) = rdH q qv σa σb l.length es (seen ++ [p.1]) := hset
    rw [hset']
    simp only [kput_eq, abSs_cons, abS_op, evE_ext, ev_t, put_some, g1, extC, extK]
    refine ⟨by simp, ?_⟩
    simp only [List.getD_cons_zero, abSs_nil, keepK_eq, keepO_some]
    refine h1 _ _ _ ?_
    refine ab_seq_k fun K2 h2 => ?_
    have hg2 : ∀ w, get (keep ((t2, V.b true) :: del ((t1, w) :: del env t1) t2) lv) t2 = .b true := by
      intro w; rw [get_keep, if_pos ht2, get_eq]
    refine ab_cond_of (by rw [ev_t]; exact hg2 _) (fun _ => ?_) (fun h => by cases h)
    rw [ab_skip]
    refine h2 _ _ _ ?_
    refine ab_block_k fun K3 h3 => ?_
    refine hround es seen p hp hsub hpl K3 (fun env' g es' he' hes' => ?_)
    refine h3 _ _ _ (hK' _ _ _ ⟨rfl, _, ?_, .inr ⟨max (max k0 k1) k2 + 1, rdI σa σb + 1, hn0, by simp [hN], seen ++ [p.1], rfl, ?_, ?_⟩⟩)
    · rw [← hm]
      have e : ((tG 0 l).filter fun x => decide (x.1 ∉ seen ++ [p.1])) = ((tG 0 l).filter fun x => decide (x.1 ∉ seen)).filter fun x => !decide (x.1 = p.1) := by
        rw [List.filter_filter]
        refine List.filter_congr (fun x _ => ?_)
        rw [Bool.eq_iff_iff]
        simp
        exact And.comm
      rw [e, List.length_filter_lt_length_iff_exists]
      exact ⟨p, List.mem_filter.2 ⟨hpt, decide_eq_true (show p.1 ∉ seen from hns)⟩, by simp⟩
    · rw [keepO_some, keep_frzE, he', hk2 _ (by omega)]
    · rw [hcut, hes', ← hes]
      congr 1
      have hkey : ((tG 0 l).map (·.2.1)).Nodup := by
        have h1 : (tG 0 l).map (·.2.1) = l.map (·.1) := by
          have := congrArg (List.map (·.1)) (tG_snd (a := l) (k := 0))
          rw [List.map_map] at this
          exact this
        rw [h1]; exact hnd
      have huniq : ∀ x ∈ tG 0 l, x.1 = p.1 → x = p := fun x hx h => nodupInj (tG_born (a := l) (k := 0)) hx hpt h
      have hukey : ∀ x ∈ tG 0 l, x.2.1 = p.2.1 → x = p := fun x hx h => nodupInj hkey hx hpt h
      split
      · rename_i hd
        rw [List.filter_filter]
        refine List.filter_congr (fun x hx => ?_)
        rw [Bool.eq_iff_iff]
        by_cases hxp : x = p
        · subst hxp; simp [hd]
        · have h1 : ¬ x.1 = p.1 := fun h => hxp (huniq x hx h)
          have h2 : ¬ x.2.1 = p.2.1 := fun h => hxp (hukey x hx h)
          simp [h1, h2]
      · rename_i hd
        refine List.filter_congr (fun x hx => ?_)
        rw [Bool.eq_iff_iff]
        by_cases hxp : x = p
        · subst hxp; simp [hd]
        · have h1 : ¬ x.1 = p.1 := fun h => hxp (huniq x hx h)
          simp [h1]
end
end Go.Ab
