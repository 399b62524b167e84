/- The abstract layer, part 14: the control form, its abstract machine, and how it is read off the code. -/
import Derived.Test.YtchmfamkpfaieaaAbD
set_option linter.unusedVariables false
set_option linter.unusedSimpArgs false
namespace Go.Ab
open Go

/-! ### Environments -/
abbrev Env := List (Nat × V)
def get : Env → Nat → V
  | [], _ => .u
  | (t, v) :: r, s => if t = s then v else get r s
def del : Env → Nat → Env
  | [], _ => []
  | (t, v) :: r, s => if t = s then del r s else (t, v) :: del r s
def put (e : Env) (d : Option Nat) (v : V) : Env :=
  match d with
  | none => e
  | some d => (d, v) :: del e d
def keep (e : Env) : List Nat → Env
  | [] => []
  | t :: r => (t, get e t) :: keep e r
def keepO (e : Env) : Option (List Nat) → Env
  | none => e
  | some l => keep e l
def frzE (k n : Nat) (σ : List O) (e : Env) : Env := e.map fun p => (p.1, frz k n σ p.2)
def entry (i : Nat) : List V → Env
  | [] => []
  | v :: r => (i, v) :: entry (i + 1) r
def puts (e : Env) : List Nat → List V → Env
  | p :: ps, v :: vs => puts (put e (some p) v) ps vs
  | _, _ => e

theorem get_del {e : Env} {s t : Nat} : get (del e s) t = if s = t then .u else get e t := by
  induction e with
  | nil => simp [del, get]
  | cons p r ih =>
    obtain ⟨q, v⟩ := p
    simp only [del]
    split
    · rename_i h; subst h
      rw [ih]
      split
      · rfl
      · rename_i h; simp [get, h]
    · rename_i h
      simp only [get]
      split
      · rename_i h'; subst h'
        rw [if_neg (fun hE => h hE.symm)]
      · rw [ih]
theorem get_put {e : Env} {d t : Nat} {v : V} : get (put e (some d) v) t = if d = t then v else get e t := by
  simp only [put, get, get_del]
  split
  · rfl
  · rfl
theorem get_keep {e : Env} {l : List Nat} {t : Nat} : get (keep e l) t = if t ∈ l then get e t else .u := by
  induction l with
  | nil => simp [keep, get]
  | cons p r ih =>
    simp only [keep, get, List.mem_cons]
    split
    · rename_i h; subst h; simp
    · rename_i h
      rw [ih]
      by_cases h2 : t ∈ r
      · simp [h2]
      · rw [if_neg h2, if_neg (by rintro (h3 | h3); exact h h3.symm; exact h2 h3)]
theorem get_frzE {k n : Nat} {σ : List O} {e : Env} {t : Nat} : get (frzE k n σ e) t = .u ∨ get (frzE k n σ e) t = frz k n σ (get e t) := by
  induction e with
  | nil => exact .inl rfl
  | cons p r ih =>
    obtain ⟨q, v⟩ := p
    show get ((q, frz k n σ v) :: frzE k n σ r) t = .u ∨ get ((q, frz k n σ v) :: frzE k n σ r) t = _
    simp only [get]
    split
    · exact .inr rfl
    · exact ih

/-- All ids that are spoken of are below n. -/
inductive Lt (n : Nat) : V → Prop
  | u : Lt n .u
  | b (x : Bool) : Lt n (.b x)
  | i (k : IntKind) (x : Int) : Lt n (.i k x)
  | str (s : ByteArray) : Lt n (.str s)
  | np : Lt n .np
  | p (id ver off : Nat) (h : id < n) : Lt n (.p id ver off)
  | sp (cells : List V) (off : Nat) (h : ∀ x ∈ cells, Lt n x) : Lt n (.sp cells off)
  | s (id ver off len es : Nat) (h : id < n) : Lt n (.s id ver off len es)
  | ss (cells : List V) (len : Nat) (full : Bool) (h : ∀ x ∈ cells, Lt n x) : Lt n (.ss cells len full)
  | nm : Lt n .nm
  | m (id : Nat) (h : id < n) : Lt n (.m id)
  | sm (es : List (V × V)) (h : ∀ e ∈ es, Lt n e.1) (h' : ∀ e ∈ es, Lt n e.2) : Lt n (.sm es)
  | nf : Lt n .nf
  | f (fn : Fn) (a b : List V) (h : ∀ x ∈ a, Lt n x) (h' : ∀ x ∈ b, Lt n x) : Lt n (.f fn a b)
  | agg (cells : List V) (h : ∀ x ∈ cells, Lt n x) : Lt n (.agg cells)
  | tup (vs : List V) (h : ∀ x ∈ vs, Lt n x) : Lt n (.tup vs)

theorem lt_all {α : Type} {p : V → Prop} {xs : List V} {cs : List α} (hl : cs.length = xs.length) (h : ∀ (j : Nat) (x : V) (c : α), xs[j]? = some x → cs[j]? = some c → p x) : ∀ x ∈ xs, p x := by
  intro x hx
  obtain ⟨j, hj⟩ := List.mem_iff_getElem?.1 hx
  have hlt := (List.getElem?_eq_some_iff.1 hj).1
  exact h j x _ hj (List.getElem?_eq_getElem (by omega))

theorem VR.lt {C : Cx} {x : V} {c : Value} (h : VR C x c) : Lt C.vs.length x := by
  have lv : ∀ {id v : Nat}, C.vs[id]? = some v → id < C.vs.length := fun h => (List.getElem?_eq_some_iff.1 h).1
  induction h with
  | u c => exact .u
  | b x => exact .b x
  | i k n => exact .i k n
  | str s => exact .str s
  | np => exact .np
  | p id ver off blk bs h hv => exact .p _ _ _ (lv hv)
  | p0 id ver off v c h1 hv hl => exact .p _ _ _ (lv hv)
  | sp cells off blk base cs hz hl h1 hc hv ih => exact .sp _ _ (lt_all hl ih)
  | s id ver off len es blk bs at_ cap cc t h hv hlc hb hs ha => exact .s _ _ _ _ _ (lv hv)
  | s0 id ver off len es v c h1 hv hl => exact .s _ _ _ _ _ (lv hv)
  | ss0 a cap => exact .ss _ _ _ (by simp)
  | ssn a => exact .ss _ _ _ (by simp)
  | ss cells len full blk base cap cs hz hl h1 hc hv hlc hf ih => exact .ss _ _ _ (lt_all hl ih)
  | nm => exact .nm
  | m id blk bs h hv => exact .m _ (lv hv)
  | m0 id v c h1 hv hl => exact .m _ (lv hv)
  | sm l blk es clock hz hb hl hk hv ihk ihv =>
    refine .sm _ (fun e he => ?_) (fun e he => ?_)
    · obtain ⟨j, hj⟩ := List.mem_iff_getElem?.1 he
      have hlt := (List.getElem?_eq_some_iff.1 hj).1
      exact ihk j e.1 e.2 _ hj (Array.getElem?_eq_getElem (by omega))
    · obtain ⟨j, hj⟩ := List.mem_iff_getElem?.1 he
      have hlt := (List.getElem?_eq_some_iff.1 hj).1
      exact ihv j e.1 e.2 _ hj (Array.getElem?_eq_getElem (by omega))
  | nf => exact .nf
  | f fn first cap cf cc hl1 hl2 h1 h2 ih1 ih2 =>
    exact .f _ _ _ (lt_all (cs := cf.toList) (by simpa using hl1) (fun j x c hx hc => ih1 j x c hx (by simpa using hc))) (lt_all (cs := cc.toList) (by simpa using hl2) (fun j x c hx hc => ih2 j x c hx (by simpa using hc)))
  | agg cells cs hl h1 hv ih => exact .agg _ (lt_all (cs := cs.toList) (by simpa using hl) (fun j x c hx hc => ih j x c hx (by simpa using hc)))
  | tup vs cs hl hv ih => exact .tup _ (lt_all (cs := cs.toList) (by simpa using hl) (fun j x c hx hc => ih j x c hx (by simpa using hc)))


def LtO (n : Nat) : O → Prop
  | .row _ cells => ∀ x ∈ cells, Lt n x
  | .map es _ => ∀ e ∈ es, Lt n e.2.1 ∧ Lt n e.2.2
  | .it mid _ _ _ => mid < n
  | .dead _ => True
/-- The heap speaks of nothing beyond it. -/
def LtAll (σ : List O) : Prop := ∀ o ∈ σ, LtO σ.length o

theorem R.ltAll {C : Cx} {σ : List O} (h : R C σ) : LtAll σ := by
  intro o ho
  obtain ⟨id, hid⟩ := List.mem_iff_getElem?.1 ho
  obtain ⟨blk, bs, hρ, -, hOR⟩ := h.blk hid
  rw [h.len]
  cases hOR with
  | row ver cells cc t hb hl h1 hv =>
    intro x hx
    obtain ⟨j, hj⟩ := List.mem_iff_getElem?.1 hx
    have hlt := (List.getElem?_eq_some_iff.1 hj).1
    exact (hv j x _ hj (Array.getElem?_eq_getElem (by omega))).lt
  | map es clock ces hb hl hv =>
    intro e he
    obtain ⟨j, hj⟩ := List.mem_iff_getElem?.1 he
    have hlt := (List.getElem?_eq_some_iff.1 hj).1
    obtain ⟨-, a, b⟩ := hv j e.1 e.2.1 e.2.2 _ hj (Array.getElem?_eq_getElem (by omega))
    exact ⟨a.lt, b.lt⟩
  | it mid since seen stepped mb h0 hm hb =>
    have := hm.lt
    cases this with
    | m _ h => exact h
  | dead ver => trivial

theorem frz_u {k n : Nat} {σ : List O} : frz k n σ .u = .u := by cases k <;> rfl
theorem map_deep {p : Nat → V → Prop} (hp : ∀ k k' x, k ≤ k' → p k x → p k' x) : ∀ {l : List V}, (∀ x ∈ l, ∃ k, p k x) → ∃ k, ∀ x ∈ l, p k x
  | [], _ => ⟨0, by simp⟩
  | x :: r, h => by
    obtain ⟨a, ha⟩ := h x (List.mem_cons_self ..)
    obtain ⟨b, hb⟩ := map_deep hp (l := r) (fun y hy => h y (List.mem_cons_of_mem _ hy))
    refine ⟨max a b, fun y hy => ?_⟩
    rcases List.mem_cons.1 hy with rfl | hy
    · exact hp a _ _ (by omega) ha
    · exact hp b _ _ (by omega) (hb y hy)
def deep (n : Nat) (k0 : Nat) (x : V) : Prop := ∀ k, k0 ≤ k → ∀ σ, frz k n σ x = x
theorem deep_mono {n : Nat} (k k' : Nat) (x : V) (h : k ≤ k') (hd : deep n k x) : deep n k' x := fun j hj σ => hd j (by omega) σ
theorem deep_map {n k : Nat} {l : List V} (h : ∀ x ∈ l, deep n k x) {j : Nat} (hj : k ≤ j) (σ : List O) : l.map (frz j n σ) = l := by
  have : l.map (frz j n σ) = l.map id := List.map_congr_left (fun x hx => h x hx j hj σ)
  rw [this, List.map_id]

/-- What speaks of what stands below alone is not turned by freezing, if that goes deep enough. -/
theorem frz_lt {n : Nat} {v : V} (h : Lt n v) : ∃ k0, deep n k0 v := by
  have pure : ∀ {v : V}, v.pure = true → ∃ k0, deep n k0 v := fun hp => ⟨1, fun k hk σ => by
    obtain ⟨k, rfl⟩ : ∃ j, k = j + 1 := ⟨k - 1, by omega⟩
    unfold frz; rw [if_pos hp]⟩
  induction h with
  | u => exact ⟨0, fun k _ σ => frz_u⟩
  | b x => exact pure rfl
  | i k x => exact pure rfl
  | str s => exact pure rfl
  | np => exact pure rfl
  | p id ver off h => exact ⟨1, fun k hk σ => by
      obtain ⟨k, rfl⟩ : ∃ j, k = j + 1 := ⟨k - 1, by omega⟩
      simp [frz, V.pure, h]⟩
  | sp cells off h ih =>
    obtain ⟨k0, hk0⟩ := map_deep (deep_mono (n := n)) ih
    refine ⟨k0 + 1, fun k hk σ => ?_⟩
    obtain ⟨k, rfl⟩ : ∃ j, k = j + 1 := ⟨k - 1, by omega⟩
    rw [frz]
    split
    · rfl
    · rw [deep_map hk0 (by omega)]
  | s id ver off len es h => exact ⟨1, fun k hk σ => by
      obtain ⟨k, rfl⟩ : ∃ j, k = j + 1 := ⟨k - 1, by omega⟩
      simp [frz, V.pure, h]⟩
  | ss cells len full h ih =>
    obtain ⟨k0, hk0⟩ := map_deep (deep_mono (n := n)) ih
    refine ⟨k0 + 1, fun k hk σ => ?_⟩
    obtain ⟨k, rfl⟩ : ∃ j, k = j + 1 := ⟨k - 1, by omega⟩
    rw [frz]
    split
    · rfl
    · rw [deep_map hk0 (by omega)]
  | nm => exact pure rfl
  | m id h => exact ⟨1, fun k hk σ => by
      obtain ⟨k, rfl⟩ : ∃ j, k = j + 1 := ⟨k - 1, by omega⟩
      simp [frz, V.pure, h]⟩
  | sm es h h' ih ih' =>
    obtain ⟨k0, hk0⟩ := map_deep (deep_mono (n := n)) (l := es.map (·.1)) (fun x hx => by
      obtain ⟨e, he, rfl⟩ := List.mem_map.1 hx
      exact ih e he)
    obtain ⟨k1, hk1⟩ := map_deep (deep_mono (n := n)) (l := es.map (·.2)) (fun x hx => by
      obtain ⟨e, he, rfl⟩ := List.mem_map.1 hx
      exact ih' e he)
    refine ⟨max k0 k1 + 1, fun k hk σ => ?_⟩
    obtain ⟨k, rfl⟩ : ∃ j, k = j + 1 := ⟨k - 1, by omega⟩
    rw [frz]
    split
    · rfl
    · have : es.map (fun e => (frz k n σ e.1, frz k n σ e.2)) = es.map id := List.map_congr_left (fun e he => by
        rw [hk0 e.1 (List.mem_map_of_mem he) k (by omega) σ, hk1 e.2 (List.mem_map_of_mem he) k (by omega) σ]; rfl)
      rw [this, List.map_id]
  | nf => exact pure rfl
  | f fn a b h h' ih ih' =>
    obtain ⟨k0, hk0⟩ := map_deep (deep_mono (n := n)) ih
    obtain ⟨k1, hk1⟩ := map_deep (deep_mono (n := n)) ih'
    refine ⟨max k0 k1 + 1, fun k hk σ => ?_⟩
    obtain ⟨k, rfl⟩ : ∃ j, k = j + 1 := ⟨k - 1, by omega⟩
    rw [frz]
    split
    · rfl
    · rw [deep_map hk0 (by omega), deep_map hk1 (by omega)]
  | agg cells h ih =>
    obtain ⟨k0, hk0⟩ := map_deep (deep_mono (n := n)) ih
    refine ⟨k0 + 1, fun k hk σ => ?_⟩
    obtain ⟨k, rfl⟩ : ∃ j, k = j + 1 := ⟨k - 1, by omega⟩
    rw [frz]
    split
    · rfl
    · rw [deep_map hk0 (by omega)]
  | tup vs h ih =>
    obtain ⟨k0, hk0⟩ := map_deep (deep_mono (n := n)) ih
    refine ⟨k0 + 1, fun k hk σ => ?_⟩
    obtain ⟨k, rfl⟩ : ∃ j, k = j + 1 := ⟨k - 1, by omega⟩
    rw [frz]
    split
    · rfl
    · rw [deep_map hk0 (by omega)]

theorem frzO_lt {n : Nat} {o : O} (h : LtO n o) : ∃ k0, ∀ k, k0 ≤ k → ∀ σ, frzO k n σ o = o := by
  cases o with
  | row v cells =>
    obtain ⟨k0, hk0⟩ := map_deep (deep_mono (n := n)) (l := cells) (fun x hx => frz_lt (h x hx))
    exact ⟨k0, fun k hk σ => by simp only [frzO]; rw [deep_map hk0 hk]⟩
  | map es c =>
    obtain ⟨k0, hk0⟩ := map_deep (deep_mono (n := n)) (l := es.map (·.2.1)) (fun x hx => by
      obtain ⟨e, he, rfl⟩ := List.mem_map.1 hx
      exact frz_lt (h e he).1)
    obtain ⟨k1, hk1⟩ := map_deep (deep_mono (n := n)) (l := es.map (·.2.2)) (fun x hx => by
      obtain ⟨e, he, rfl⟩ := List.mem_map.1 hx
      exact frz_lt (h e he).2)
    refine ⟨max k0 k1, fun k hk σ => ?_⟩
    simp only [frzO]
    have : es.map (fun e => (e.1, frz k n σ e.2.1, frz k n σ e.2.2)) = es.map id := List.map_congr_left (fun e he => by
      rw [hk0 e.2.1 (List.mem_map.2 ⟨e, he, rfl⟩) k (by omega) σ, hk1 e.2.2 (List.mem_map.2 ⟨e, he, rfl⟩) k (by omega) σ]; rfl)
    rw [this, List.map_id]
  | it mid since seen stepped => exact ⟨0, fun k _ σ => by simp only [frzO]; rw [if_pos (show mid < n from h)]⟩
  | dead v => exact ⟨0, fun k _ σ => rfl⟩

theorem frzL_lt {n : Nat} : ∀ {l : List O}, (∀ o ∈ l, LtO n o) → ∃ k0, ∀ k, k0 ≤ k → ∀ σ, l.map (frzO k n σ) = l
  | [], _ => ⟨0, by simp⟩
  | o :: l, h => by
    obtain ⟨a, ha⟩ := frzO_lt (h o (List.mem_cons_self ..))
    obtain ⟨b, hb⟩ := frzL_lt (l := l) (fun o' ho' => h o' (List.mem_cons_of_mem _ ho'))
    exact ⟨max a b, fun k hk σ => by rw [List.map_cons, ha k (by omega), hb k (by omega)]⟩

/-- Whatever has been made behind a heap is cut off. -/
theorem LtAll.cut {σ : List O} (h : LtAll σ) : ∃ k0, ∀ k, k0 ≤ k → ∀ g : List O, frzS k σ.length (σ ++ g) = σ := by
  obtain ⟨k0, hk0⟩ := frzL_lt h
  exact ⟨k0, fun k hk g => by rw [frzS, List.take_left]; exact hk0 k hk _⟩

/-! ### The form -/
inductive IS where
  | op (dst : Option Nat) (g : Option (Nat × Bool)) (io : IOp)
  | call (dst : Option Nat) (g : Option (Nat × Bool)) (f : FuncId) (args : List Od)
  | callv (dst : Option Nat) (g : Option (Nat × Bool)) (x : Od) (args : List Od)
  deriving Inhabited

inductive IC where
  | skip
  | reg (ops : List IS) (live : Option (List Nat))
  | drw (ops : List (IS × List Nat)) (live : Option (List Nat))
  | seq (a b : IC)
  | cond (c : Od) (a b : IC)
  | block (id : Nat) (a : IC)
  | loop (live : Option (List Nat)) (a : IC)
  | rfn (g : Od) (ps : List Nat) (asg body : IC)
  | exit (id : Nat)
  | ret
  deriving Inhabited

def IC.erase : IC → IC
  | .skip => .skip
  | .reg ops _ => .reg ops none
  | .drw ops _ => .drw ops none
  | .seq a b => .seq a.erase b.erase
  | .cond c a b => .cond c a.erase b.erase
  | .block id a => .block id a.erase
  | .loop _ a => .loop none a.erase
  | .rfn g ps a b => .rfn g ps a.erase b.erase
  | .exit id => .exit id
  | .ret => .ret

/-! ### Contracts -/
def FSpec (P : Program) (f : FuncId) (args : List V) (σ : List O) (v : V) (σ' : List O) : Prop :=
  (∃ fn, P.funcs[f]? = some fn ∧ fn.name ≠ "runtime.NumGoroutine" ∧ fn.body.isSome = true) ∧
  ∀ (C : Cx) (cargs : List Value), R C σ → VRl C args cargs → CallsIn Fence.wide 0 P f cargs.toArray C.w (fun e w' => ∃ C' cv, C'.w = w' ∧ e = .returned cv ∧ R C' σ' ∧ Ext C C' ∧ VR C' v cv)

/-! ### The abstract machine. 'md': none: yield may be called; some j: it may not (any more), and the jump j is pending. -/
abbrev Md := Option Nat
abbrev Kt := Md → Env → List O → Prop
abbrev Yield := Nat → List V → List O → (Md → V → List O → Prop) → Prop

def noY : Yield := fun _ _ _ _ => False

def guarded (g : Option (Nat × Bool)) (md : Md) (env : Env) (σ : List O) (run : Prop) (dst : Option Nat) (K : Kt) : Prop :=
  match g with
  | none => run
  | some (t, want) => match get env t with
    | .b b => if b = want then run else K md (put env dst (.tup [])) σ
    | .tup [] => K md (put env dst (.tup [])) σ
    | _ => False

def kput (md : Md) (env : Env) (dst : Option Nat) (K : Kt) (v : V) (σ' : List O) : Prop := K md (put env dst v) σ'
def yput (n0 : Nat) (env : Env) (dst : Option Nat) (K : Kt) (md : Md) (v : V) (σ' : List O) : Prop := LtAll σ' → n0 ≤ σ'.length → K md (put env dst v) σ'

def callK (P : Program) (f : FuncId) (args : List V) (σ : List O) (K : V → List O → Prop) : Prop := ∃ v σ', FSpec P f args σ v σ' ∧ K v σ'

def callvK (P : Program) (Y : Yield) (n0 : Nat) (x : V) (md : Md) (env : Env) (args : List V) (σ : List O) (dst : Option Nat) (K : Kt) : Prop :=
  match x with
  | .f (.func f) first cap => callK P f (first ++ args ++ cap) σ (kput md env dst K)
  | .f (.yield l) [] [] => md = none ∧ ∃ k n, n0 ≤ n ∧ n ≤ σ.length ∧ Y l (args.map (frz k n σ)) (frzS k n σ) (yput n0 (frzE k n σ env) dst K)
  | _ => False

def abS (P : Program) (Y : Yield) (n0 : Nat) : IS → Kt → Kt
  | .op dst g io, K, md, env, σ => guarded g md env σ (evK (Od.ev (get env)) σ (kput md env dst K) io) dst K
  | .call dst g f args, K, md, env, σ => guarded g md env σ (callK P f (args.map (Od.ev (get env))) σ (kput md env dst K)) dst K
  | .callv dst g x args, K, md, env, σ => guarded g md env σ (callvK P Y n0 (x.ev (get env)) md env (args.map (Od.ev (get env))) σ dst K) dst K

def abSs (P : Program) (Y : Yield) (n0 : Nat) : List IS → Kt → Kt
  | [], K, md, env, σ => K md env σ
  | s :: r, K, md, env, σ => abS P Y n0 s (abSs P Y n0 r K) md env σ

def keepK (live : Option (List Nat)) (K : Kt) (md : Md) (env : Env) (σ : List O) : Prop := K md (keepO env live) σ

/-! ### Regions that draw their order -/
def IOp.ods : IOp → List Od
  | .mov x => [x]
  | .pick c a b => [c, a, b]
  | .alloc _ => []
  | .box x => [x]
  | .build _ ps => ps.map (·.2.2)
  | .bsl _ _ _ _ ps => ps.map (·.2.2)
  | .load1 a => [a]
  | .loadA _ a => [a]
  | .store1 a x => [a, x]
  | .storeA _ a x => [a, x]
  | .nilc x => [x]
  | .bin _ x y => [x, y]
  | .eqv _ _ _ x y => [x, y]
  | .eqb _ x y => [x, y]
  | .not x => [x]
  | .neg x => [x]
  | .conv _ x => [x]
  | .mkf _ a b => a ++ b
  | .mkmap => []
  | .mksl _ _ _ l c => [l, c]
  | .slc _ x lo hi m => x :: (lo.toList ++ hi.toList ++ m.toList)
  | .sla _ _ x => [x]
  | .fad _ x => [x]
  | .fld1 _ x => [x]
  | .fldA _ _ x => [x]
  | .ixa _ _ x i => [x, i]
  | .ixs _ x i => [x, i]
  | .ixv _ _ x i => [x, i]
  | .ext _ x => [x]
  | .len x => [x]
  | .lenm x => [x]
  | .lens x => [x]
  | .app _ _ x y => [x, y]
  | .clr _ _ x => [x]
  | .cpy _ d s => [d, s]
  | .mx xs => xs
  | .mn xs => xs
  | .lkp _ _ _ _ x k => [x, k]
  | .mset _ _ x k v => [x, k, v]
  | .mdel _ _ x k => [x, k]
  | .rng x => [x]
  | .nxt x => [x]
  | .ent x => [x]
  | .call _ xs => xs
  | .callv x xs => x :: xs

def Od.tmp? : Od → Option Nat
  | .t n => some n
  | _ => none

def IS.dst : IS → Option Nat
  | .op d _ _ => d
  | .call d _ _ _ => d
  | .callv d _ _ _ => d
def IS.g : IS → Option (Nat × Bool)
  | .op _ g _ => g
  | .call _ g _ _ => g
  | .callv _ g _ _ => g
def IS.ods : IS → List Od
  | .op _ _ io => io.ods
  | .call _ _ _ xs => xs
  | .callv _ _ x xs => x :: xs
def IS.reads (s : IS) : List Nat := (s.g.map (·.1)).toList ++ s.ods.filterMap Od.tmp?

def IOp.loud : IOp → Bool
  | .alloc _ => true
  | .box _ => true
  | .bsl f _ _ _ _ => !f
  | .store1 _ _ => true
  | .storeA _ _ _ => true
  | .mkmap => true
  | .mksl _ _ _ _ _ => true
  | .app _ _ _ _ => true
  | .clr _ _ _ => true
  | .cpy _ _ _ => true
  | .mset _ _ _ _ _ => true
  | .mdel _ _ _ _ => true
  | .rng _ => true
  | .nxt _ => true
  | _ => false
def IS.loud : IS → Bool
  | .op _ _ io => io.loud
  | .call _ _ _ _ => false
  | .callv _ _ _ _ => false
/-- May stand in a region that draws its order. -/
def IS.calm : IS → Bool
  | .op _ _ (.nxt _) => false
  | _ => true

def recheck (P : Program) (Y : Yield) (n0 : Nat) (j : Nat) : List (IS × Env × V × List Nat) → Md → List O → Prop
  | [], _, _ => True
  | (s, env, v, us) :: r, md, σ => (if us.contains j then abS P Y n0 s (fun md' env' σ' => md' = md ∧ env' = put env s.dst v ∧ σ' = σ) md env σ else True) ∧ recheck P Y n0 j r md σ

def abDs (P : Program) (Y : Yield) (n0 : Nat) : List (IS × List Nat) → Nat → List (IS × Env × V × List Nat) → Kt → Kt
  | [], _, _, K, md, env, σ => K md env σ
  | (s, us) :: r, j, pend, K, md, env, σ =>
    abS P Y n0 s (fun md' env' σ' => md' = md ∧ (s.loud = false → σ' = σ) ∧ recheck P Y n0 j pend md σ' ∧
      abDs P Y n0 r (j + 1) (if us.isEmpty then pend else (s, env, (match s.dst with | some d => get env' d | none => .u), us) :: pend) K md' env' σ') md env σ

/-! ### Control -/
/-- What is held at a loop's head, once more; whatever has been made meanwhile may be cut off. -/
def againK (n0 : Nat) (live : Option (List Nat)) (I : Nat → Env → List O → Prop) (m : Nat) (md : Md) (md' : Md) (env : Env) (σ : List O) : Prop :=
  md' = md ∧ ∃ m', m' < m ∧ (I m' (keepO env live) σ ∨ ∃ k n, n0 ≤ n ∧ n ≤ σ.length ∧ I m' (keepO (frzE k n σ env) live) (frzS k n σ))

def exitK : List (Nat × Kt) → Nat → Kt
  | [], _, _, _, _ => False
  | (i, K) :: r, id, md, env, σ => if i = id then K md env σ else exitK r id md env σ

/-- One round's end: on to the next one; whatever has been made meanwhile may be cut off. -/
def roundK (n0 : Nat) (J : List O → Prop) (md : Md) (md' : Md) (_ : Env) (σ : List O) : Prop := md' = md ∧ (J σ ∨ ∃ k n, n0 ≤ n ∧ n ≤ σ.length ∧ J (frzS k n σ))

def constK (env : Env) (K : Kt) (md : Md) (_ : Env) (σ : List O) : Prop := K md env σ
def constE (env : Env) : List (Nat × Kt) → List (Nat × Kt)
  | [] => []
  | (i, K) :: r => (i, constK env K) :: constE env r

/-- 'This function yields just these', if the heap is so. -/
abbrev ItTy := FuncId → List V → List V → List (List V) → (List O → Prop) → Prop

def ab (P : Program) (Y : Yield) (It : ItTy) (n0 : Nat) : IC → (K : Kt) → (E : List (Nat × Kt)) → (Rt : Kt) → Kt
  | .skip, K, _, _, md, env, σ => K md env σ
  | .reg ops live, K, _, _, md, env, σ => abSs P Y n0 ops (keepK live K) md env σ
  | .drw ops live, K, _, _, md, env, σ => abDs P noY n0 ops 0 [] (keepK live K) md env σ
  | .seq a b, K, E, Rt, md, env, σ => ab P Y It n0 a (ab P Y It n0 b K E Rt) E Rt md env σ
  | .cond c a b, K, E, Rt, md, env, σ => match c.ev (get env) with
    | .b t => if t = true then ab P Y It n0 a K E Rt md env σ else ab P Y It n0 b K E Rt md env σ
    | _ => False
  | .block id a, K, E, Rt, md, env, σ => ab P Y It n0 a K ((id, K) :: E) Rt md env σ
  | .loop live a, K, E, Rt, md, env, σ => ∃ I : Nat → Env → List O → Prop, (∃ m, I m (keepO env live) σ) ∧ ∀ m env σ, I m env σ → ab P Y It n0 a (againK n0 live I m md) E Rt md env σ
  | .rfn g ps asg body, K, E, Rt, md, env, σ => match g.ev (get env) with
    | .f (.func f) first cap => ∃ xs Pre, It f first cap xs Pre ∧ ∃ J : Nat → List O → Prop, (∀ i σ, J i σ → Pre σ) ∧ J 0 σ ∧
        (∀ i x σ', xs[i]? = some x → J i σ' → x.length = ps.length ∧ ab P noY It σ'.length asg (ab P noY It σ'.length body (roundK σ'.length (J (i + 1)) md) (constE env E) (constK env Rt)) [] (fun _ _ _ => False) md (puts env ps x) σ') ∧
        ∀ σ', J xs.length σ' → K md env σ'
    | _ => False
  | .exit id, _, E, _, md, env, σ => exitK E id md env σ
  | .ret, _, _, Rt, md, env, σ => Rt md env σ

/-! ### How it is read off the code -/
def trG (ops : Array Oper) (g : Option (Nat × Bool)) : Option (Option (Nat × Bool)) :=
  match g with
  | none => some none
  | some (j, want) => match (ops[j]?).bind (·.dst) with
    | some t => some (some (t, want))
    | none => none

def dstOK (N : Nat) : Option Nat → Bool
  | none => true
  | some d => decide (d < N)

def trS (P : Program) (N : Nat) (ex : List Nat) (ops : Array Oper) (o : Oper) : Option IS :=
  match dstOK N o.dst, trG ops o.guard, trOp P (match o.dst with | some d => !ex.contains d | none => true) o with
  | true, some g, some (.call f args) => some (.call o.dst g f args)
  | true, some g, some (.callv x args) => some (.callv o.dst g x args)
  | true, some g, some io => some (.op o.dst g io)
  | _, _, _ => none

def trSs (P : Program) (N : Nat) (ex : List Nat) (ops : Array Oper) : List Oper → Option (List IS)
  | [] => some []
  | o :: r => match trS P N ex ops o, trSs P N ex ops r with
    | some s, some ss => some (s :: ss)
    | _, _ => none

/-- The binding edges. -/
def trEdges (o : Oper) : List Nat := (o.after.toList.filter (Region.binds .any ·)).map (·.on)

/-- For each operation the set (as bits) of those that must come before it. -/
def befores : List (List Nat) → List Nat → List Nat
  | [], acc => acc
  | es :: r, acc => befores r (acc ++ [es.foldl (fun m e => m ||| (1 <<< e) ||| acc.getD e 0) 0])

def bit (m i : Nat) : Bool := Nat.testBit m i

/-- j before i by edges, or i before j. -/
def tied (bs : List Nat) (i j : Nat) : Bool := bit (bs.getD i 0) j || bit (bs.getD j 0) i

def usOf (ss : List IS) (bs : List Nat) (i : Nat) : List Nat :=
  (List.range ss.length).filter fun j => decide (i < j) && ((ss[j]?).map IS.loud).getD false && !bit (bs.getD j 0) i

/-- Every order that the edges let comes to the same as the text's. -/
def drawOK (es : List (List Nat)) (ss : List IS) (bs : List Nat) : Bool :=
  (List.range ss.length).all fun i =>
    match ss[i]? with
    | none => false
    | some s => s.calm && (es.getD i []).all (· < i) &&
      (List.range ss.length).all fun j => i == j ||
        match ss[j]? with
        | none => false
        | some s' =>
          (match s'.dst with
            | some d => !(s.reads.contains d || s.dst == some d) || tied bs i j
            | none => true) &&
          (!s'.loud || (if s.loud then tied bs i j else (decide (i < j) || tied bs i j)))

def trC (P : Program) (N : Nat) (ex : List Nat) : Code → Option IC
  | .skip => some .skip
  | .label _ => some .skip
  | .region _ ops draw => match trSs P N ex ops ops.toList with
    | some ss => if draw then
        (let es := ops.toList.map trEdges
         let bs := befores es []
         if drawOK es ss bs then some (.drw (ss.zip ((List.range ss.length).map (usOf ss bs))) none) else none)
      else some (.reg ss none)
    | none => none
  | .seq a b => match trC P N ex a, trC P N ex b with
    | some x, some y => some (.seq x y)
    | _, _ => none
  | .cond c a b => match trX c, trC P N ex a, trC P N ex b with
    | some c, some x, some y => some (.cond c x y)
    | _, _, _ => none
  | .block id a => (trC P N ex a).map (.block id)
  | .loop a => (trC P N ex a).map (.loop none)
  | .rangeFunc g ps asg body => match trX g, trC P N ex asg, trC P N ex body with
    | some g, some x, some y => if ps.toList.all (fun p => decide (p < N)) then some (.rfn g ps.toList x y) else none
    | _, _, _ => none
  | .exit id => some (.exit id)
  | .scope a => trC P N ex a
  | .ret => some .ret
  | _ => none

end Go.Ab
