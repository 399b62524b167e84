/- Plain books: the walks of pay and Plain. -/
import Derived.Test.YtgaijhpekajflaaUQ
set_option linter.unusedVariables false
set_option linter.unusedSimpArgs false
set_option maxHeartbeats 8000000
set_option maxRecDepth 100000
namespace Go.Ab
open Go Go.Proofs

theorem lk_filter {E : List Ent} {k k' : List Int} : lk (E.filter fun e => !decide (e.2.1 = k)) k' = if k = k' then none else lk E k' := by
  unfold lk
  rw [List.find?_filter]
  by_cases h : k = k'
  · subst h
    rw [if_pos rfl]
    have : (E.find? fun a => decide ((!decide (a.2.1 = k)) = true ∧ (a.2.1 == k) = true)) = none := by
      rw [List.find?_eq_none]
      intro x _
      simp
    rw [this]; rfl
  · rw [if_neg h]
    congr 2
    funext a
    by_cases h2 : a.2.1 = k'
    · simp [h2]
      exact fun h3 => h h3.symm
    · simp [h2]
/-- One debt made less. -/
def payE (E : List Ent) (k : List Int) (x : Int) : List Ent :=
  match E.findIdx? (fun e => e.2.1 == k) with
  | none => E
  | some j => if x = 0 then (setAt E j (.i .i64 x)).eraseIdx j else setAt E j (.i .i64 x)
theorem findIdx_set {E : List Ent} {k : List Int} {j : Nat} {v : V} (h : E.findIdx? (fun e => e.2.1 == k) = some j) : (setAt E j v).findIdx? (fun e => e.2.1 == k) = some j := by
  have h1 : ∀ l : List Ent, l.findIdx? (fun e => e.2.1 == k) = (l.map (·.2.1)).findIdx? (fun e => e == k) := fun l => by rw [List.findIdx?_map]; rfl
  rw [h1, setAt_keys, ← h1]
  exact h
theorem pay_ok {N c a b : Nat} {E : List Ent} {F : Ow} {s : Int} (hO : OwOK N E c F) (h0 : F a b ≠ 0) (hs : 0 ≤ s) (hs2 : s ≤ F a b) : OwOK N (payE E [(a : Int), (b : Int)] (F a b - s)) c (updO F a b (F a b - s)) := by
  have hl := hO.lk a b
  rw [if_neg h0] at hl
  obtain ⟨j, st, hj, hi⟩ := lk_some hl
  have hnn := hO.nn a b
  unfold payE
  rw [hi]
  simp only
  have hset := hO.ok.setAt (j := j) (v := .i .i64 (F a b - s))
  have hlk := fun k' => lk_setAt hO.ok (v := .i .i64 (F a b - s)) (k' := k') hj
  have hpu : ∀ e ∈ setAt E j (.i .i64 (F a b - s)), e.2.2.pure = true := fun e he => by
    rcases setAt_mem' he with h | h
    · exact hO.pure e h
    · rw [h]; rfl
  have hkey : ∀ a' b' : Nat, ([(a : Int), (b : Int)] = [(a' : Int), (b' : Int)]) = (a' = a ∧ b' = b) := fun a' b' => by
    rw [eq_iff_iff]
    constructor
    · intro h; simp at h; omega
    · rintro ⟨rfl, rfl⟩; rfl
  have hnn2 : ∀ a' b', 0 ≤ updO F a b (F a b - s) a' b' ∧ updO F a b (F a b - s) a' b' ≤ 1000000 := fun a' b' => by
    unfold updO
    split
    · omega
    · exact hO.nn a' b'
  have hlt2 : ∀ a' b', updO F a b (F a b - s) a' b' ≠ 0 → a' < N ∧ b' < N ∧ a' ≠ b' := fun a' b' h => by
    unfold updO at h
    split at h
    · rename_i hab
      obtain ⟨rfl, rfl⟩ := hab
      exact hO.lt _ _ h0
    · exact hO.lt a' b' h
  by_cases hx : F a b - s = 0
  · rw [if_pos hx]
    refine ⟨hset.erase, fun a' b' => ?_, hnn2, hlt2, fun e he => hpu e ((List.eraseIdx_sublist _ _).subset he)⟩
    rw [erase_filter hset (findIdx_set hi), lk_filter, hlk]
    simp only [hkey]
    unfold updO
    by_cases hab : a' = a ∧ b' = b
    · rw [if_pos hab, if_pos hab, if_pos hx]
    · rw [if_neg hab, if_neg hab, if_neg hab, hO.lk]
  · rw [if_neg hx]
    refine ⟨hset, fun a' b' => ?_, hnn2, hlt2, hpu⟩
    rw [hlk]
    simp only [hkey]
    unfold updO
    by_cases hab : a' = a ∧ b' = b
    · rw [if_pos hab, if_pos hab, if_neg hx]
    · rw [if_neg hab, if_neg hab, hO.lk]
theorem LtAll.cutSet {σ : List O} (h : LtAll σ) {id : Nat} {M : O} (hM : ∀ k n τ, frzO (k + 1) n τ M = M) : ∃ k0, ∀ k, k0 ≤ k → ∀ g, frzS k σ.length (σ.set id M ++ g) = σ.set id M := by
  obtain ⟨k0, hk0⟩ := frzL_lt (n := σ.length) (l := σ) (fun o ho => h o ho)
  refine ⟨k0 + 1, fun k hk g => ?_⟩
  obtain ⟨k, rfl⟩ : ∃ j, k = j + 1 := ⟨k - 1, by omega⟩
  have e : (σ.set id M ++ g).take σ.length = σ.set id M := by
    have : σ.length = (σ.set id M).length := by simp
    rw [this, List.take_left]
  rw [frzS, e, List.map_set, hk0 (k + 1) (by omega), hM]
theorem pay75 {N id c a b : Nat} {E : List Ent} {F : Ow} {s : Int} {σ : List O} (hO : OwOK N E c F) (h0 : F a b ≠ 0) (hs : 0 ≤ s) (hs2 : s ≤ F a b) (hid : σ[id]? = some (.map (mpV E) c)) :
    FSpec Try.prog 75 [.m id, .agg [.i .i64 a, .i .i64 b], .i .i64 s] σ (.tup []) (σ.set id (.map (mpV (payE E [(a : Int), (b : Int)] (F a b - s))) c)) := by
  have hok2 := pay_ok hO h0 hs hs2
  have hl := hO.lk a b
  rw [if_neg h0] at hl
  obtain ⟨j, st, hj, hi⟩ := lk_some hl
  have hnn := hO.nn a b
  have hE : payE E [(a : Int), (b : Int)] (F a b - s) = if F a b - s = 0 then (setAt E j (.i .i64 (F a b - s))).eraseIdx j else setAt E j (.i .i64 (F a b - s)) := by
    unfold payE
    rw [hi]
  have hset := hO.ok.setAt (j := j) (v := .i .i64 (F a b - s))
  have hlk := lk_setAt hO.ok (v := .i .i64 (F a b - s)) (k' := [(a : Int), (b : Int)]) hj
  rw [if_pos rfl] at hlk
  have hi2 := findIdx_set (v := .i .i64 (F a b - s)) hi
  refine fn75.specL mixed noIt_ok (fun hltA => ?_)
  obtain ⟨k0, hk0⟩ := hltA.cutSet (id := id) (M := .map (mpV (payE E [(a : Int), (b : Int)] (F a b - s))) c) (fun k n τ => frzO_mp hok2.pure)
  have hend : ∀ env g md, finK rs75 σ (.tup []) (σ.set id (.map (mpV (payE E [(a : Int), (b : Int)] (F a b - s))) c)) md env (σ.set id (.map (mpV (payE E [(a : Int), (b : Int)] (F a b - s))) c) ++ g) := by
    intro env g md
    unfold finK
    simp [-frz, rs75]
    refine .inl ⟨k0 + 1, σ.length, Nat.le_refl _, by omega, by rw [frz_pure rfl], ?_⟩
    first | exact hk0 (k0 + 1) (by omega) g | exact .inl (hk0 (k0 + 1) (by omega) g)
  have hidl := (List.getElem?_eq_some_iff.1 hid).1
  rw [ic75]
  refine ab_seq_k fun K1 h1 => ?_
  simp
  refine h1 _ _ _ ?_
  clear h1 K1
  have t1 := app_get (g := [O.row 0 [V.i .i64 (a : Int), V.i .i64 (b : Int)]]) hid
  have tr : (σ ++ [O.row 0 [V.i .i64 (a : Int), V.i .i64 (b : Int)]])[σ.length]? = some (O.row 0 [V.i .i64 (a : Int), V.i .i64 (b : Int)]) := by simp
  have ht : ∀ M, (σ ++ [O.row 0 [V.i .i64 (a : Int), V.i .i64 (b : Int)]]).set id M = σ.set id M ++ [O.row 0 [V.i .i64 (a : Int), V.i .i64 (b : Int)]] := fun M => List.set_append_left _ _ hidl
  have hne : id ≠ σ.length := by omega
  generalize hU : σ ++ [O.row 0 [V.i .i64 (a : Int), V.i .i64 (b : Int)]] = U at *
  generalize hri : σ.length = ri at *
  obtain ⟨trl, tr'⟩ := List.getElem?_eq_some_iff.1 tr
  obtain ⟨t1l, t1'⟩ := List.getElem?_eq_some_iff.1 t1
  refine ab_seq_k fun K2 h2 => ?_
  simp [abDs_consU, drU, recheck_cons, recheck_nil, rcK, IS.dst, tr, tr']
  refine lkpC_ok (k := [(a : Int), (b : Int)]) hO.ok t1 ?_ rfl
  rw [hl]
  simp [abDs_consU, drU, recheck_cons, recheck_nil, rcK, IS.dst, tr, tr', wrap64 (x := F a b - s) (by omega) (by omega)]
  refine mentK_old (k := [(a : Int), (b : Int)]) hO.ok t1 hj ?_
  simp [abDs_consU, drU, recheck_cons, recheck_nil, rcK, IS.dst, tr, tr', wrap64 (x := F a b - s) (by omega) (by omega)]
  refine ⟨lkpC_ok (k := [(a : Int), (b : Int)]) hO.ok t1 (by rw [hl]; simp [rcK]) rfl, mestK_ok hO.ok t1 hj ?_⟩
  simp [abDs_consU, drU, recheck_cons, recheck_nil, rcK, IS.dst]
  refine h2 _ _ _ ?_
  clear h2 K2
  have u1 : (U.set id (.map (mpV (setAt E j (.i .i64 (F a b - s)))) c))[id]? = some (.map (mpV (setAt E j (.i .i64 (F a b - s)))) c) := List.getElem?_set_self t1l
  have ur : (U.set id (.map (mpV (setAt E j (.i .i64 (F a b - s)))) c))[ri]? = some (O.row 0 [V.i .i64 (a : Int), V.i .i64 (b : Int)]) := by rw [List.getElem?_set_ne hne]; exact tr
  have hss : ∀ M, (U.set id (.map (mpV (setAt E j (.i .i64 (F a b - s)))) c)).set id M = U.set id M := fun M => by simp
  have hU0 := ht (.map (mpV (setAt E j (.i .i64 (F a b - s)))) c)
  generalize hWW : U.set id (.map (mpV (setAt E j (.i .i64 (F a b - s)))) c) = W at *
  obtain ⟨url, ur'⟩ := List.getElem?_eq_some_iff.1 ur
  refine ab_seq_k fun K3 h3 => ?_
  simp [ur, ur']
  refine lkpC_ok (k := [(a : Int), (b : Int)]) hset u1 ?_ rfl
  rw [hlk]
  simp
  refine h3 _ _ _ ?_
  clear h3 K3
  by_cases hx : F a b - s = 0
  · rw [if_pos hx] at hE
    refine ab_cond_of rfl (fun _ => ?_) (fun h => by simp [hx] at h)
    simp [ur, ur']
    refine mdelK_old (v := .u) hset u1 hi2 rfl ?_
    rw [hss, ht, ← hE]
    simp
    exact hend _ _ _
  · rw [if_neg hx] at hE
    refine ab_cond_of rfl (fun h => by simp [hx] at h) (fun _ => ?_)
    simp
    rw [hU0, ← hE]
    exact hend _ _ _
end Go.Ab
