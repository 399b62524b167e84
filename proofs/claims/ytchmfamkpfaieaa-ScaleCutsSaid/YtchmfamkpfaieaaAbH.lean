/- The abstract layer, part 17: a region that draws its order comes to what the text's order comes to. -/
import Derived.Test.YtchmfamkpfaieaaAbG
set_option linter.unusedVariables false
set_option linter.unusedSimpArgs false
namespace Go.Ab
open Go

theorem ev_congr {env env2 : Env} {x : Od} (h : ∀ t, x.tmp? = some t → get env2 t = get env t) : Od.ev (get env2) x = Od.ev (get env) x := by
  cases x with
  | t n => exact h n rfl
  | c v => rfl
  | fn f => rfl

theorem map_ev_congr {env env2 : Env} {xs : List Od} (h : ∀ t, t ∈ xs.filterMap Od.tmp? → get env2 t = get env t) : xs.map (Od.ev (get env2)) = xs.map (Od.ev (get env)) :=
  List.map_congr_left fun x hx => ev_congr fun t ht => h t (List.mem_filterMap.2 ⟨x, hx, ht⟩)

/-- From such an environment and heap, this operation leads to this value and heap; from every environment that agrees on what it reads. -/
def Pt (P : Program) (n0 : Nat) (s : IS) (env : Env) (σ : List O) (v : V) (σ' : List O) : Prop :=
  ∀ (env2 : Env), (∀ t ∈ s.reads, get env2 t = get env t) → ∀ (md : Md) (K : Kt), K md (put env2 s.dst v) σ' → abS P noY n0 s K md env2 σ

theorem abS_point {P : Program} {n0 : Nat} {s : IS} (hc : s.calm = true) {K : Kt} {md : Md} {env : Env} {σ : List O} (h : abS P noY n0 s K md env σ) :
    ∃ v σ', K md (put env s.dst v) σ' ∧ Pt P n0 s env σ v σ' := by
  -- one guard
  have key : ∀ (g : Option (Nat × Bool)) (dst : Option Nat) (run : Md → Env → Kt → Prop) (reads : List Nat), (∀ t ∈ (g.map (·.1)).toList, t ∈ reads) →
      (run md env K → ∃ v σ', K md (put env dst v) σ' ∧ ∀ env2, (∀ t ∈ reads, get env2 t = get env t) → ∀ md2 K2, K2 md2 (put env2 dst v) σ' → run md2 env2 K2) →
      guarded g md env σ (run md env K) dst K →
      ∃ v σ', K md (put env dst v) σ' ∧ ∀ env2, (∀ t ∈ reads, get env2 t = get env t) → ∀ md2 (K2 : Kt), K2 md2 (put env2 dst v) σ' → guarded g md2 env2 σ (run md2 env2 K2) dst K2 := by
    intro g dst run reads hsub hrun hgd
    cases g with
    | none => exact hrun hgd
    | some tw =>
      obtain ⟨t, want⟩ := tw
      simp only [guarded] at hgd ⊢
      split at hgd
      · rename_i b hb
        by_cases hbw : b = want
        · rw [if_pos hbw] at hgd
          obtain ⟨v, σ', h1, h2⟩ := hrun hgd
          refine ⟨v, σ', h1, fun env2 hag md2 K2 hk => ?_⟩
          rw [hag t (hsub t (by simp)), hb]
          simp only [if_pos hbw]
          exact h2 env2 hag md2 K2 hk
        · rw [if_neg hbw] at hgd
          refine ⟨.tup [], σ, hgd, fun env2 hag md2 K2 hk => ?_⟩
          rw [hag t (hsub t (by simp)), hb]
          simp only [if_neg hbw]
          exact hk
      · rename_i hb
        refine ⟨.tup [], σ, hgd, fun env2 hag md2 K2 hk => ?_⟩
        rw [hag t (hsub t (by simp)), hb]
        exact hk
      · exact hgd.elim
  cases s with
  | op dst g io =>
    have hn : io.isNxt = false := by cases io <;> first | rfl | (simp [IS.calm] at hc)
    refine key g dst (fun md env K => evK (Od.ev (get env)) σ (kput md env dst K) io) (IS.op dst g io).reads (by simp [IS.reads, IS.g]; intro t ht; exact .inl ht) (fun hr => ?_) h
    obtain ⟨v, σ', h1, h2⟩ := evK_point hn _ hr
    refine ⟨v, σ', h1, fun env2 hag md2 K2 hk => ?_⟩
    rw [evK_congr (g' := Od.ev (get env)) (fun x hx => ev_congr fun t ht => hag t (by
      simp only [IS.reads, IS.ods, List.mem_append, List.mem_filterMap]
      exact .inr ⟨x, hx, ht⟩))]
    exact h2 _ hk
  | call dst g f args =>
    refine key g dst (fun md env K => callK P f (args.map (Od.ev (get env))) σ (kput md env dst K)) (IS.call dst g f args).reads (by simp [IS.reads, IS.g]; intro t ht; exact .inl ht) (fun hr => ?_) h
    obtain ⟨v, σ', h1, h2⟩ := hr
    refine ⟨v, σ', h2, fun env2 hag md2 K2 hk => ⟨v, σ', ?_, hk⟩⟩
    rw [map_ev_congr (env := env) fun t ht => hag t (by simp only [IS.reads, IS.ods, List.mem_append]; exact .inr ht)]
    exact h1
  | callv dst g x args =>
    refine key g dst (fun md env K => callvK P noY n0 (x.ev (get env)) md env (args.map (Od.ev (get env))) σ dst K) (IS.callv dst g x args).reads (by simp [IS.reads, IS.g]; intro t ht; exact .inl ht) (fun hr => ?_) h
    unfold callvK at hr
    split at hr
    · rename_i f first cap hx
      obtain ⟨v, σ', h1, h2⟩ := hr
      refine ⟨v, σ', h2, fun env2 hag md2 K2 hk => ?_⟩
      have e1 : x.ev (get env2) = x.ev (get env) := ev_congr fun t ht => hag t (by
        simp only [IS.reads, IS.ods, List.mem_append, List.mem_filterMap]
        exact .inr ⟨x, by simp, ht⟩)
      have e2 : args.map (Od.ev (get env2)) = args.map (Od.ev (get env)) := map_ev_congr fun t ht => hag t (by
        simp only [IS.reads, IS.ods, List.mem_append, List.mem_filterMap, List.mem_cons]
        obtain ⟨y, hy, hy'⟩ := List.mem_filterMap.1 ht
        exact .inr ⟨y, .inr hy, hy'⟩)
      rw [e1, e2, hx]
      exact ⟨v, σ', h1, hk⟩
    · obtain ⟨_, k, n, _, _, hh⟩ := hr
      exact hh.elim
    · exact hr.elim

theorem put_eq {env env2 : Env} {dst : Option Nat} {v v' : V} (h : put env dst v' = put env dst v) : put env2 dst v' = put env2 dst v := by
  cases dst with
  | none => rfl
  | some d =>
    simp only [put, List.cons.injEq, Prod.mk.injEq, true_and, and_true] at h
    rw [h]

theorem Pt.eqv {P : Program} {n0 : Nat} {s : IS} {env e : Env} {σ σ' : List O} {v v' : V} (h : Pt P n0 s env σ v' σ') (he : put e s.dst v' = put e s.dst v) : Pt P n0 s env σ v σ' :=
  fun env2 hag md K hk => h env2 hag md K (by rw [put_eq he]; exact hk)

theorem recheck_pt {P : Program} {n0 j : Nat} {md : Md} {σ : List O} : ∀ {pend : List (IS × Env × V × List Nat)}, recheck P noY n0 j pend md σ →
    ∀ p ∈ pend, p.1.calm = true → p.2.2.2.contains j = true → Pt P n0 p.1 p.2.1 σ p.2.2.1 σ
  | [], _, p, hp, _, _ => by cases hp
  | (s, env, v, us) :: r, h, p, hp, hc, hu => by
    simp only [recheck] at h
    rcases List.mem_cons.1 hp with rfl | hp
    · rw [if_pos hu] at h
      obtain ⟨v', σ', ⟨-, h1, rfl⟩, h2⟩ := abS_point hc h.1
      exact h2.eqv h1
    · exact recheck_pt h.2 p hp hc hu

/-- What the run in the text's order came by. -/
structure Data (P : Program) (n0 : Nat) (l : List (IS × List Nat)) (j : Nat) (ev : Nat → Env) (hv : Nat → List O) (vv : Nat → V) : Prop where
  step : ∀ i s us, l[i]? = some (s, us) → ev (j + i + 1) = put (ev (j + i)) s.dst (vv (j + i)) ∧ Pt P n0 s (ev (j + i)) (hv (j + i)) (vv (j + i)) (hv (j + i + 1)) ∧ (s.loud = false → hv (j + i + 1) = hv (j + i))
  again : ∀ i s us m, l[i]? = some (s, us) → i < m → m < l.length → us.contains (j + m) = true → Pt P n0 s (ev (j + i)) (hv (j + m + 1)) (vv (j + i)) (hv (j + m + 1))

theorem abD_data {P : Program} {n0 : Nat} {K : Kt} : ∀ (l : List (IS × List Nat)) (j : Nat) (pend : List (IS × Env × V × List Nat)) (md : Md) (env : Env) (σ : List O), (∀ p ∈ l, p.1.calm = true) → (∀ p ∈ pend, p.1.calm = true) →
    abDs P noY n0 l j pend K md env σ → ∃ ev hv vv, ev j = env ∧ hv j = σ ∧ Data P n0 l j ev hv vv ∧ (∀ p ∈ pend, ∀ m, m < l.length → p.2.2.2.contains (j + m) = true → Pt P n0 p.1 p.2.1 (hv (j + m + 1)) p.2.2.1 (hv (j + m + 1))) ∧ K md (ev (j + l.length)) (hv (j + l.length))
  | [], j, pend, md, env, σ, _, _, h => ⟨fun _ => env, fun _ => σ, fun _ => .u, rfl, rfl, ⟨fun i s us h => by simp at h, fun i s us m h => by simp at h⟩, fun p hp m hm => by simp at hm, h⟩
  | (s, us) :: r, j, pend, md, env, σ, hl, hpd, h => by
    simp only [abDs] at h
    have hcs := hl _ (List.mem_cons_self ..)
    obtain ⟨v, σ', ⟨-, hq, hrc, h⟩, hpt⟩ := abS_point hcs h
    have hpd' : ∀ p ∈ (if us.isEmpty then pend else (s, env, (match s.dst with | some d => get (put env s.dst v) d | none => .u), us) :: pend), p.1.calm = true := by
      intro p hp
      split at hp
      · exact hpd p hp
      · rcases List.mem_cons.1 hp with rfl | hp
        · exact hcs
        · exact hpd p hp
    obtain ⟨ev, hv, vv, e1, e2, hd, hpend, hk⟩ := abD_data r (j + 1) _ md _ σ' (fun p hp => hl p (List.mem_cons_of_mem _ hp)) hpd' h
    refine ⟨fun i => if i = j then env else ev i, fun i => if i = j then σ else hv i, fun i => if i = j then v else vv i, by simp, by simp, ⟨?_, ?_⟩, ?_, ?_⟩
    · intro i s' us' hi
      cases i with
      | zero =>
        simp only [List.getElem?_cons_zero, Option.some.injEq, Prod.mk.injEq] at hi
        obtain ⟨rfl, rfl⟩ := hi
        have n1 : ¬ (j + 1 = j) := by omega
        simp only [Nat.add_zero, if_true, if_neg n1, e1, e2]
        exact ⟨trivial, hpt, hq⟩
      | succ i =>
        have n1 : ¬ (j + (i + 1) = j) := by omega
        have n2 : ¬ (j + (i + 1) + 1 = j) := by omega
        simp only [if_neg n1, if_neg n2]
        have := hd.step i s' us' (by simpa using hi)
        rw [show j + (i + 1) = j + 1 + i by omega]
        exact this
    · intro i s' us' m hi him hm hu
      cases i with
      | zero =>
        simp only [List.getElem?_cons_zero, Option.some.injEq, Prod.mk.injEq] at hi
        obtain ⟨rfl, rfl⟩ := hi
        obtain ⟨m, rfl⟩ : ∃ m', m = m' + 1 := ⟨m - 1, by omega⟩
        have n1 : ¬ (j + (m + 1) + 1 = j) := by omega
        simp only [Nat.add_zero, if_true, if_neg n1]
        have hne : us.isEmpty = false := by
          cases us with
          | nil => simp at hu
          | cons => rfl
        have := hpend (s, env, (match s.dst with | some d => get (put env s.dst v) d | none => .u), us) (by rw [hne]; simp) m (by simp at hm; omega) (by rw [show j + 1 + m = j + (m + 1) by omega]; exact hu)
        rw [show j + (m + 1) + 1 = j + 1 + m + 1 by omega]
        refine this.eqv (e := env) ?_
        cases s.dst with
        | none => rfl
        | some d => simp [get_put]
      | succ i =>
        obtain ⟨m, rfl⟩ : ∃ m', m = m' + 1 := ⟨m - 1, by omega⟩
        have n1 : ¬ (j + (i + 1) = j) := by omega
        have n2 : ¬ (j + (m + 1) + 1 = j) := by omega
        simp only [if_neg n1, if_neg n2]
        have := hd.again i s' us' m (by simpa using hi) (by omega) (by simp at hm; omega) (by rw [show j + 1 + m = j + (m + 1) by omega]; exact hu)
        rw [show j + (i + 1) = j + 1 + i by omega, show j + (m + 1) = j + 1 + m by omega]
        exact this
    · intro p hp m hm hu
      cases m with
      | zero =>
        have n1 : ¬ (j + 0 + 1 = j) := by omega
        simp only [if_neg n1, Nat.add_zero, e2]
        exact recheck_pt hrc p hp (hpd p hp) (by simpa using hu)
      | succ m =>
        have n1 : ¬ (j + (m + 1) + 1 = j) := by omega
        simp only [if_neg n1]
        rw [show j + (m + 1) + 1 = j + 1 + m + 1 by omega]
        refine hpend p ?_ m (by simp at hm; omega) (by rw [show j + 1 + m = j + (m + 1) by omega]; exact hu)
        split
        · exact hp
        · exact List.mem_cons_of_mem _ hp
    · have n1 : ¬ (j + (r.length + 1) = j) := by omega
      simp only [List.length_cons, if_neg n1]
      rw [show j + (r.length + 1) = j + 1 + r.length by omega]
      exact hk

end Go.Ab
