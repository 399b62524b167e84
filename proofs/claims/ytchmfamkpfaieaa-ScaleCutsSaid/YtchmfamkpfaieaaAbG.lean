/- The abstract layer, part 16: what an operation does depends on what it reads alone, and (one apart) leads to one end. -/
import Derived.Test.YtchmfamkpfaieaaAbF
set_option linter.unusedVariables false
set_option linter.unusedSimpArgs false
set_option maxHeartbeats 4000000
namespace Go.Ab
open Go

theorem evK_congr {g g' : Od → V} {σ : List O} {K : V → List O → Prop} {io : IOp} (h : ∀ x ∈ io.ods, g x = g' x) : evK g σ K io = evK g' σ K io := by
  cases io <;> simp only [IOp.ods, List.mem_cons, List.not_mem_nil, or_false, forall_eq_or_imp, forall_eq, List.mem_map, List.mem_append] at h <;> simp only [evK]
  case build zs ps =>
    rw [List.map_congr_left (fun p hp => by rw [h _ ⟨p, hp, rfl⟩])]
  case bsl f es n zs ps =>
    rw [List.map_congr_left (fun p hp => by rw [h _ ⟨p, hp, rfl⟩])]
  case mkf fn a b =>
    rw [List.map_congr_left (fun p hp => h p (.inl hp)), List.map_congr_left (l := b) (fun p hp => h p (.inr hp))]
  case slc es x lo hi m =>
    rw [h.1]
    have h1 : lo.map g = lo.map g' := by cases lo <;> simp_all
    have h2 : hi.map g = hi.map g' := by cases hi <;> simp_all
    have h3 : m.map g = m.map g' := by cases m <;> simp_all
    rw [h1, h2, h3]
  case mx xs => rw [List.map_congr_left h]
  case mn xs => rw [List.map_congr_left h]
  all_goals simp only [h]

def IOp.isNxt : IOp → Bool
  | .nxt _ => true
  | _ => false

/-- A transformer that leads to one end. -/
def Point (T : (V → List O → Prop) → Prop) : Prop := ∀ K, T K → ∃ v σ', K v σ' ∧ ∀ K' : V → List O → Prop, K' v σ' → T K'

theorem binK_point {op : BinOp} {x y : V} {σ : List O} : Point fun K => binK op x y fun v => K v σ := by
  intro K h
  cases x <;> cases y <;> simp only [binK] at h ⊢ <;> first | exact h.elim | skip
  cases op <;> simp only at h ⊢ <;> first
    | exact ⟨_, _, h.2, fun _ hk => ⟨h.1, hk⟩⟩
    | exact ⟨_, _, h.2.2, fun _ hk => ⟨h.1, h.2.1, hk⟩⟩

theorem slcB_point {len : Nat} {lo hi m : Option V} {K : Nat → Nat → Option Nat → Prop} (h : slcB len lo hi m K) : ∃ a b c, K a b c ∧ ∀ K' : Nat → Nat → Option Nat → Prop, K' a b c → slcB len lo hi m K' := by
  unfold slcB at h ⊢
  split at h
  · split at h
    · split at h
      · exact ⟨_, _, _, h, fun _ hk => hk⟩
      · exact ⟨_, _, _, h.2.2, fun _ hk => ⟨h.1, h.2.1, hk⟩⟩
      · exact h.elim
    · split at h
      · exact ⟨_, _, _, h.2.2, fun _ hk => ⟨h.1, h.2.1, hk⟩⟩
      · exact ⟨_, _, _, h.2.2.2, fun _ hk => ⟨h.1, h.2.1, h.2.2.1, hk⟩⟩
      · exact h.elim
    · exact h.elim
  · split at h
    · split at h
      · exact ⟨_, _, _, h.2.2.2, fun _ hk => ⟨h.1, h.2.1, h.2.2.1, hk⟩⟩
      · exact ⟨_, _, _, h.2.2.2.2, fun _ hk => ⟨h.1, h.2.1, h.2.2.1, h.2.2.2.1, hk⟩⟩
      · exact h.elim
    · exact h.elim
  · exact h.elim

theorem rowOf_point {es : Nat} {y : V} {σ : List O} {K : List V → Nat → Prop} (h : rowOf es y σ K) : ∃ a b, K a b ∧ ∀ K' : List V → Nat → Prop, K' a b → rowOf es y σ K' := by
  unfold rowOf at h ⊢
  split at h
  · exact ⟨_, _, h.2, fun _ hk => ⟨h.1, hk⟩⟩
  · split at h
    · exact ⟨_, _, h.2.2.2, fun _ hk => ⟨h.1, h.2.1, h.2.2.1, hk⟩⟩
    · exact h.elim
  · exact h.elim

theorem lkpF_point {q : IntKind} {n : Nat} {zs : V} {ok : Bool} {ks : List Int} {l : List (V × V)} {σ : List O} : Point fun K => lkpF q n zs ok ks l fun v => K v σ := by
  intro K h
  unfold lkpF at h ⊢
  obtain ⟨h1, h⟩ := h
  split at h
  · exact ⟨_, _, h, fun _ hk => ⟨h1, by simp_all⟩⟩
  · exact ⟨_, _, h, fun _ hk => ⟨h1, by simp_all⟩⟩

theorem evK_point {g : Od → V} {σ : List O} {io : IOp} (hn : io.isNxt = false) : Point fun K => evK g σ K io := by
  intro K h
  cases io <;> simp only [IOp.isNxt] at hn <;> simp only [evK] at h ⊢
  case mov x => exact ⟨_, _, h, fun _ hk => hk⟩
  case pick c a b =>
    split at h
    · exact ⟨_, _, h, fun _ hk => by simp_all⟩
    · exact h.elim
  case alloc => exact ⟨_, _, h, fun _ hk => hk⟩
  case box x =>
    split at h
    · exact ⟨_, _, h, fun _ hk => by simp_all⟩
    · exact h.elim
  case build zs ps =>
    split at h
    · exact ⟨_, _, h, fun _ hk => by simp_all⟩
    · exact h.elim
  case bsl f es n zs ps =>
    split at h
    · split at h
      · exact ⟨_, _, h, fun _ hk => by simp_all⟩
      · exact ⟨_, _, h, fun _ hk => by simp_all⟩
    · exact h.elim
  case load1 a =>
    unfold ld1K at h ⊢
    split at h
    · split at h
      · exact ⟨_, _, h.2.2, fun _ hk => by simp_all⟩
      · exact h.elim
    · exact ⟨_, _, h.2, fun _ hk => by simp_all⟩
    · exact h.elim
  case loadA n a =>
    unfold ldAK at h ⊢
    split at h
    · split at h
      · exact ⟨_, _, h.2.2, fun _ hk => by simp_all⟩
      · exact h.elim
    · exact ⟨_, _, h.2, fun _ hk => by simp_all⟩
    · exact h.elim
  case store1 a x =>
    unfold st1K at h ⊢
    split at h
    · split at h
      · exact ⟨_, _, h.2.2.2, fun _ hk => by simp_all⟩
      · exact h.elim
    · exact h.elim
  case storeA n a x =>
    unfold stAK at h ⊢
    split at h
    · split at h
      · exact ⟨_, _, h.2.2.2, fun _ hk => by simp_all⟩
      · exact h.elim
    · exact h.elim
  case nilc x =>
    unfold nilcK at h ⊢
    split at h
    · exact ⟨_, _, h.2, fun _ hk => by simp_all⟩
    · exact ⟨_, _, h, fun _ hk => by simp_all⟩
    · exact ⟨_, _, h, fun _ hk => by simp_all⟩
    · exact h.elim
  case bin op x y => exact binK_point K h
  case eqv k n neq x y =>
    unfold eqvK at h ⊢
    split at h
    · split at h
      · exact ⟨_, _, h.2.2, fun _ hk => by simp_all⟩
      · exact h.elim
    · exact h.elim
  case eqb neq x y =>
    unfold eqbK at h ⊢
    split at h
    · exact ⟨_, _, h, fun _ hk => by simp_all⟩
    · exact h.elim
  case not x =>
    split at h
    · exact ⟨_, _, h, fun _ hk => by simp_all⟩
    · exact h.elim
  case neg x =>
    split at h
    · exact ⟨_, _, h, fun _ hk => by simp_all⟩
    · exact h.elim
  case conv k x =>
    split at h
    · exact ⟨_, _, h, fun _ hk => by simp_all⟩
    · exact h.elim
  case mkf => exact ⟨_, _, h, fun _ hk => hk⟩
  case mkmap => exact ⟨_, _, h, fun _ hk => hk⟩
  case mksl es bytes zs l c =>
    split at h
    · obtain ⟨rfl, h1, h2, h3, h⟩ := h
      exact ⟨_, _, h, fun _ hk => by simp_all⟩
    · exact h.elim
  case slc es x lo hi m =>
    unfold slcK at h ⊢
    split at h
    · rename_i id ver off len es' hx
      obtain ⟨a, b, c, hk, hall⟩ := slcB_point h.2.2
      exact ⟨_, _, hk, fun K' hk' => by
        exact ⟨h.1, h.2.1, hall _ hk'⟩⟩
    · rename_i cells len full hx
      obtain ⟨a, b, c, hk, hall⟩ := slcB_point h
      exact ⟨_, _, hk, fun K' hk' => by
        exact hall _ hk'⟩
    · exact h.elim
  case sla n es x =>
    unfold slaK at h ⊢
    split at h
    · split at h
      · exact ⟨_, _, h.2.2, fun _ hk => by simp_all⟩
      · exact h.elim
    · exact h.elim
  case fad o x =>
    unfold fadK at h ⊢
    split at h
    · exact ⟨_, _, h.2, fun _ hk => by simp_all⟩
    · exact ⟨_, _, h, fun _ hk => by simp_all⟩
    · exact h.elim
  case fld1 off x =>
    split at h
    · exact ⟨_, _, h.2, fun _ hk => by simp_all⟩
    · exact h.elim
  case fldA off size x =>
    split at h
    · exact ⟨_, _, h.2, fun _ hk => by simp_all⟩
    · exact h.elim
  case ixa n es x i =>
    unfold ixaK at h ⊢
    split at h
    · exact ⟨_, _, h.2.2.2, fun _ hk => by simp_all⟩
    · exact ⟨_, _, h.2.2, fun _ hk => by simp_all⟩
    · exact h.elim
  case ixs es x i =>
    unfold ixsK at h ⊢
    split at h
    · exact ⟨_, _, h.2.2.2.2, fun _ hk => by simp_all⟩
    · exact ⟨_, _, h.2.2, fun _ hk => by simp_all⟩
    · exact h.elim
  case ixv n one x i =>
    unfold ixvK at h ⊢
    split at h
    · split at h
      · exact ⟨_, _, h.2.2.2, fun _ hk => by simp_all⟩
      · exact ⟨_, _, h.2.2.2, fun _ hk => by simp_all⟩
    · exact h.elim
  case ext i x =>
    unfold extK at h ⊢
    split at h
    · exact ⟨_, _, h.2, fun _ hk => by simp_all⟩
    · exact h.elim
  case len x =>
    unfold lenK at h ⊢
    split at h
    · exact ⟨_, _, h.2, fun _ hk => by simp_all⟩
    · exact ⟨_, _, h, fun _ hk => by simp_all⟩
    · exact h.elim
  case lenm x =>
    unfold lenmK at h ⊢
    split at h
    · exact ⟨_, _, h, fun _ hk => by simp_all⟩
    · split at h
      · exact ⟨_, _, h, fun _ hk => by simp_all⟩
      · exact h.elim
    · exact ⟨_, _, h, fun _ hk => by simp_all⟩
    · exact h.elim
  case lens x =>
    unfold lensK at h ⊢
    split at h
    · exact ⟨_, _, h, fun _ hk => by simp_all⟩
    · exact h.elim
  case app es bytes x y =>
    unfold appK at h ⊢
    obtain ⟨ys, m, h, hall⟩ := rowOf_point h
    split at h
    · obtain ⟨h1, h2, h⟩ := h
      split at h
      · exact ⟨_, _, h, fun _ hk => hall _ (by simp_all)⟩
      · exact ⟨_, _, h, fun _ hk => hall _ (by simp_all)⟩
    · split at h
      · obtain ⟨h1, h2, h3, h4, h⟩ := h
        split at h
        · exact ⟨_, _, h, fun _ hk => hall _ (by simp_all)⟩
        · exact ⟨_, _, h, fun _ hk => hall _ (by simp_all)⟩
      · exact h.elim
    · exact h.elim
  case clr es zs x =>
    unfold clrK at h ⊢
    split at h
    · split at h
      · obtain ⟨h1, h2, h3, h⟩ := h
        subst h1; subst h2
        exact ⟨_, _, h, fun _ hk => by simp_all⟩
      · exact h.elim
    · exact ⟨_, _, h, fun _ hk => by simp_all⟩
    · exact h.elim
  case cpy es d s =>
    unfold cpyK at h ⊢
    obtain ⟨ys, m, h, hall⟩ := rowOf_point h
    split at h
    · split at h
      · obtain ⟨h1, h2, h3, h⟩ := h
        subst h1; subst h2
        exact ⟨_, _, h, fun _ hk => hall _ (by simp_all)⟩
      · exact h.elim
    · exact ⟨_, _, h, fun _ hk => hall _ (by simp_all)⟩
    · exact h.elim
  case mx xs =>
    generalize xs.map g = l at *
    unfold mxK at h ⊢
    split at h
    · split at h
      · exact ⟨_, _, h, fun _ hk => by simp_all⟩
      · exact h.elim
    · exact h.elim
  case mn xs =>
    generalize xs.map g = l at *
    unfold mxK at h ⊢
    split at h
    · split at h
      · exact ⟨_, _, h, fun _ hk => by simp_all⟩
      · exact h.elim
    · exact h.elim
  case lkp q n zs ok x k =>
    unfold lkpK at h ⊢
    split at h
    · split at h
      · obtain ⟨v, σ', h1, h2⟩ := lkpF_point K h
        exact ⟨v, σ', h1, fun K' hk => by first | (simp only [*]; done) | (simp only [*]; exact h2 K' hk)⟩
      · split at h
        · obtain ⟨v, σ', h1, h2⟩ := lkpF_point K h
          exact ⟨v, σ', h1, fun K' hk => by first | (simp only [*]; done) | (simp only [*]; exact h2 K' hk)⟩
        · exact h.elim
      · exact ⟨_, _, h, fun _ hk => by simp_all⟩
      · exact h.elim
    · exact h.elim
  case mset q n x k v =>
    unfold msetK at h ⊢
    split at h
    · split at h
      · obtain ⟨h1, h⟩ := h
        split at h
        · exact ⟨_, _, h, fun _ hk => by simp_all⟩
        · exact ⟨_, _, h, fun _ hk => by simp_all⟩
      · exact h.elim
    · exact h.elim
  case mdel q n x k =>
    unfold mdelK at h ⊢
    split at h
    · split at h
      · obtain ⟨h1, h⟩ := h
        split at h
        · exact ⟨_, _, h, fun _ hk => by simp_all⟩
        · exact ⟨_, _, h, fun _ hk => by simp_all⟩
      · exact h.elim
    · exact h.elim
  case rng x =>
    unfold rngK at h ⊢
    split at h
    · split at h
      · exact ⟨_, _, h, fun _ hk => by simp_all⟩
      · exact h.elim
    · exact h.elim
  case nxt x => cases hn
  case ent x =>
    unfold entK at h ⊢
    split at h
    · split at h
      · split at h
        · obtain ⟨h1, h2, h3, h⟩ := h
          split at h
          · exact ⟨_, _, h, fun _ hk => by simp_all⟩
          · exact h.elim
        · exact h.elim
      · exact h.elim
    · exact h.elim

end Go.Ab
