/- The abstract layer, part 24: the abstract machine run by evaluation (deterministic; every value is brought to its form when it is made), and that whatever it answers is a contract. -/
import Derived.Test.YtchmfamkpfaieaaAbS
set_option linter.unusedVariables false
set_option linter.unusedSimpArgs false
namespace Go.Ab
open Go

/-! ### Forcing -/
section
variable {α : Type}
def fN (n : Nat) (c : Nat → α) : α := match n with | 0 => c 0 | m + 1 => c (m + 1)
@[simp] theorem fN_eq {n : Nat} {c : Nat → α} : fN n c = c n := by cases n <;> rfl
def fI (n : Int) (c : Int → α) : α := match n with | .ofNat m => fN m fun m => c (.ofNat m) | .negSucc m => fN m fun m => c (.negSucc m)
@[simp] theorem fI_eq {n : Int} {c : Int → α} : fI n c = c n := by cases n <;> simp [fI]
def fV (v : V) (c : V → α) : α := match v with
  | .u => c .u
  | .b x => (match x with | true => c (.b true) | false => c (.b false))
  | .i k n => fI n fun n => c (.i k n)
  | .str s => c (.str s)
  | .np => c .np
  | .p id ver off => fN id fun id => fN ver fun ver => fN off fun off => c (.p id ver off)
  | .sp cs off => fN off fun off => c (.sp cs off)
  | .s id ver off len es => fN id fun id => fN ver fun ver => fN off fun off => fN len fun len => c (.s id ver off len es)
  | .ss cs len full => fN len fun len => c (.ss cs len full)
  | .nm => c .nm
  | .m id => fN id fun id => c (.m id)
  | .sm es => c (.sm es)
  | .nf => c .nf
  | .f fn a b => c (.f fn a b)
  | .agg cs => c (.agg cs)
  | .tup vs => c (.tup vs)
@[simp] theorem fV_eq {v : V} {c : V → α} : fV v c = c v := by
  cases v <;> simp [fV]
  split <;> rfl
/-- The spine. -/
def fSp {β : Type} : List β → (List β → α) → α
  | [], c => c []
  | x :: r, c => fSp r fun r => c (x :: r)
@[simp] theorem fSp_eq {β : Type} : ∀ {l : List β} {c : List β → α}, fSp l c = c l
  | [], c => rfl
  | x :: r, c => by rw [fSp, fSp_eq]
/-- The spine, and what the elements are. -/
def fL : List V → (List V → α) → α
  | [], c => c []
  | x :: r, c => fV x fun x => fL r fun r => c (x :: r)
@[simp] theorem fL_eq : ∀ {l : List V} {c : List V → α}, fL l c = c l
  | [], c => rfl
  | x :: r, c => by rw [fL, fV_eq, fL_eq]

/-! ### The operations -/
abbrev Kx (α : Type) := V → List O → Option α

def liveB (σ : List O) (id ver : Nat) : Bool := match σ[id]? with | some o => o.ver == ver | none => false
theorem liveB_live {σ : List O} {id ver : Nat} (h : liveB σ id ver = true) : liveV σ id ver := by
  unfold liveB at h
  split at h
  · rename_i o ho
    simp only [beq_iff_eq] at h
    rw [liveV, ho]
    exact congrArg some h
  · cases h

def binX (op : BinOp) (x y : V) (k : V → Option α) : Option α :=
  match x, y with
  | .i q a, .i q' b =>
    match op with
    | .shl => if 0 ≤ b then k (.i q (q.wrap (a * 2 ^ (min b.toNat q.bits)))) else none
    | .shr => if 0 ≤ b then k (.i q (a.fdiv (2 ^ (min b.toNat q.bits)))) else none
    | .add => if q = q' then k (.i q (q.wrap (a + b))) else none
    | .sub => if q = q' then k (.i q (q.wrap (a - b))) else none
    | .mul => if q = q' then k (.i q (q.wrap (a * b))) else none
    | .quo => if q = q' ∧ b ≠ 0 then k (.i q (q.wrap (a.tdiv b))) else none
    | .rem => if q = q' ∧ b ≠ 0 then k (.i q (a.tmod b)) else none
    | .and => if q = q' then k (.i q (bitop .and q a b)) else none
    | .or => if q = q' then k (.i q (bitop .or q a b)) else none
    | .xor => if q = q' then k (.i q (bitop .xor q a b)) else none
    | .andNot => if q = q' then k (.i q (bitop .andNot q a b)) else none
    | .eql => if q = q' then k (.b (decide (a = b))) else none
    | .neq => if q = q' then k (.b (!decide (a = b))) else none
    | .lss => if q = q' then k (.b (decide (a < b))) else none
    | .leq => if q = q' then k (.b (decide (a ≤ b))) else none
    | .gtr => if q = q' then k (.b (decide (b < a))) else none
    | .geq => if q = q' then k (.b (decide (b ≤ a))) else none
  | _, _ => none
variable {r : α}
theorem binX_sound {op : BinOp} {x y : V} {k : V → Option α} (h : binX op x y k = some r) : binK op x y (fun v => k v = some r) := by
  unfold binX at h
  split at h
  · cases op <;> dsimp only [binK] at h ⊢ <;> (split at h <;> first | cases h | (rename_i hc; first | exact ⟨hc, h⟩ | exact ⟨hc.1, hc.2, h⟩))
  · cases h

def eqvX (q : IntKind) (n : Nat) (neq : Bool) (x y : V) (k : V → Option α) : Option α :=
  match x, y with
  | .agg xs, .agg ys =>
    match intsK q xs, intsK q ys with
    | some a, some b => if xs.length = n ∧ ys.length = n then k (.b (if neq then !decide (a = b) else decide (a = b))) else none
    | _, _ => none
  | _, _ => none
theorem eqvX_sound {q n neq} {x y : V} {k : V → Option α} (h : eqvX q n neq x y k = some r) : eqvK q n neq x y (fun v => k v = some r) := by
  unfold eqvX at h
  split at h
  · split at h
    · rename_i h1 h2
      split at h
      · rename_i hc
        simp only [eqvK, h1, h2]
        exact ⟨hc.1, hc.2, h⟩
      · cases h
    · cases h
  · cases h

def eqbX (neq : Bool) (x y : V) (k : V → Option α) : Option α :=
  match x, y with
  | .b a, .b b => k (.b (if neq then !(a == b) else a == b))
  | _, _ => none
theorem eqbX_sound {neq} {x y : V} {k : V → Option α} (h : eqbX neq x y k = some r) : eqbK neq x y (fun v => k v = some r) := by
  unfold eqbX at h
  split at h
  · exact h
  · cases h

def ld1X (a : V) (σ : List O) (k : V → Option α) : Option α :=
  match a with
  | .p id ver off =>
    match σ[id]? with
    | some (.row v cells) => if v = ver then (match cells[off]? with | some x => k x | none => none) else none
    | _ => none
  | .sp cells off => match cells[off]? with | some x => k x | none => none
  | _ => none
theorem getD_of {cells : List V} {off : Nat} {x : V} (h : cells[off]? = some x) : off < cells.length ∧ cells.getD off .u = x := by
  have := (List.getElem?_eq_some_iff.1 h).1
  exact ⟨this, by rw [List.getD_eq_getElem?_getD, h]; rfl⟩
theorem ld1X_sound {a : V} {σ : List O} {k : V → Option α} (h : ld1X a σ k = some r) : ld1K a σ (fun v => k v = some r) := by
  unfold ld1X at h
  split at h
  · split at h
    · rename_i h1
      split at h
      · rename_i hv
        split at h
        · rename_i h2
          obtain ⟨h3, h4⟩ := getD_of h2
          simp only [ld1K, h1]
          exact ⟨hv, h3, by rw [h4]; exact h⟩
        · cases h
      · cases h
    · cases h
  · split at h
    · rename_i h2
      obtain ⟨h3, h4⟩ := getD_of h2
      simp only [ld1K]
      exact ⟨h3, by rw [h4]; exact h⟩
    · cases h
  · cases h

def ldAX (n : Nat) (a : V) (σ : List O) (k : V → Option α) : Option α :=
  match a with
  | .p id ver off =>
    match σ[id]? with
    | some (.row v cells) => if v = ver ∧ off + n ≤ cells.length then fL ((cells.drop off).take n) fun l => k (.agg l) else none
    | _ => none
  | .sp cells off => if off + n ≤ cells.length then fL ((cells.drop off).take n) fun l => k (.agg l) else none
  | _ => none
theorem ldAX_sound {n} {a : V} {σ : List O} {k : V → Option α} (h : ldAX n a σ k = some r) : ldAK n a σ (fun v => k v = some r) := by
  unfold ldAX at h
  split at h
  · split at h
    · rename_i h1
      split at h
      · rename_i hv
        simp only [ldAK, h1]
        exact ⟨hv.1, hv.2, by simpa using h⟩
      · cases h
    · cases h
  · split at h
    · rename_i hv
      simp only [ldAK]
      exact ⟨hv, by simpa using h⟩
    · cases h
  · cases h

def isOne : V → Bool
  | .u => false
  | .tup _ => false
  | .agg _ => false
  | _ => true
theorem isOne_cells {x : V} (h : isOne x = true) : cellsOf x = some [x] := by
  cases x <;> first | rfl | cases h

def st1X (a x : V) (σ : List O) (k : Kx α) : Option α :=
  match a with
  | .p id ver off =>
    match σ[id]? with
    | some (.row v cells) => if v = ver ∧ off < cells.length ∧ isOne x = true then fV x fun x => fSp (cells.set off x) fun cells => fSp (σ.set id (.row v cells)) fun σ => k .u σ else none
    | _ => none
  | _ => none
theorem st1X_sound {a x : V} {σ : List O} {k : Kx α} (h : st1X a x σ k = some r) : st1K a x σ (fun v σ => k v σ = some r) := by
  unfold st1X at h
  split at h
  · split at h
    · rename_i h1
      split at h
      · rename_i hv
        simp only [st1K, h1]
        exact ⟨hv.1, hv.2.1, isOne_cells hv.2.2, by simpa using h⟩
      · cases h
    · cases h
  · cases h

def stAX (n : Nat) (a x : V) (σ : List O) (k : Kx α) : Option α :=
  match a, x with
  | .p id ver off, .agg xs =>
    match σ[id]? with
    | some (.row v cells) => if v = ver ∧ xs.length = n ∧ off + n ≤ cells.length then fSp (splice cells off xs) fun cells => fSp (σ.set id (.row v cells)) fun σ => k .u σ else none
    | _ => none
  | _, _ => none
theorem stAX_sound {n} {a x : V} {σ : List O} {k : Kx α} (h : stAX n a x σ k = some r) : stAK n a x σ (fun v σ => k v σ = some r) := by
  unfold stAX at h
  split at h
  · split at h
    · rename_i h1
      split at h
      · rename_i hv
        simp only [stAK, h1]
        exact ⟨hv.1, hv.2.1, hv.2.2, by simpa using h⟩
      · cases h
    · cases h
  · cases h

def nilX (x : V) (σ : List O) (k : V → Option α) : Option α :=
  match x with
  | .p id ver off => if liveB σ id ver = true then k (.p id ver off) else none
  | .sp cs off => k (.sp cs off)
  | .f (.func f) a b => k (.f (.func f) a b)
  | _ => none
theorem nilX_sound {x : V} {σ : List O} {k : V → Option α} (h : nilX x σ k = some r) : nilcK x σ (fun v => k v = some r) := by
  unfold nilX at h
  split at h
  · split at h
    · rename_i hc; exact ⟨liveB_live hc, h⟩
    · cases h
  · exact h
  · exact h
  · cases h

def slbX (len : Nat) (lo hi mx : Option V) (k : Nat → Nat → Option Nat → Option α) : Option α :=
  match mx with
  | none =>
    match hi with
    | none =>
      match lo with
      | none => k 0 len none
      | some (.i _ l) => if 0 ≤ l ∧ l ≤ len then k l.toNat len none else none
      | _ => none
    | some (.i _ h) =>
      match lo with
      | none => if 0 ≤ h ∧ h ≤ len then k 0 h.toNat none else none
      | some (.i _ l) => if 0 ≤ l ∧ l ≤ h ∧ h ≤ len then k l.toNat h.toNat none else none
      | _ => none
    | _ => none
  | some (.i _ m) =>
    match hi with
    | some (.i _ h) =>
      match lo with
      | none => if 0 ≤ h ∧ h ≤ m ∧ m ≤ len then k 0 h.toNat (some m.toNat) else none
      | some (.i _ l) => if 0 ≤ l ∧ l ≤ h ∧ h ≤ m ∧ m ≤ len then k l.toNat h.toNat (some m.toNat) else none
      | _ => none
    | _ => none
  | _ => none
theorem slbX_sound {len : Nat} {lo hi mx : Option V} {k : Nat → Nat → Option Nat → Option α} (h : slbX len lo hi mx k = some r) : slcB len lo hi mx (fun a b c => k a b c = some r) := by
  unfold slbX at h
  repeat' split at h
  all_goals first | cases h | skip
  all_goals simp only [slcB]
  all_goals simp_all

def slcX (es : Nat) (x : V) (lo hi mx : Option V) (σ : List O) (k : V → Option α) : Option α :=
  match x with
  | .s id ver off len es' => if es = es' ∧ liveB σ id ver = true then slbX len lo hi mx fun l h _ => k (.s id ver (off + l * es) (h - l) es) else none
  | .ss cells len full => slbX len lo hi mx fun l h m => fL ((cells.drop (l * es)).take ((h - l) * es)) fun cs => k (.ss cs (h - l) (fullOf m h len full))
  | _ => none
theorem slcX_sound {es : Nat} {x : V} {lo hi mx : Option V} {σ : List O} {k : V → Option α} (h : slcX es x lo hi mx σ k = some r) : slcK es x lo hi mx σ (fun v => k v = some r) := by
  unfold slcX at h
  split at h
  · split at h
    · rename_i hc; exact ⟨hc.1, liveB_live hc.2, slbX_sound h⟩
    · cases h
  · simp only [fL_eq] at h; exact slbX_sound h
  · cases h

def slaX (n es : Nat) (x : V) (σ : List O) (k : V → Option α) : Option α :=
  match x with
  | .p id ver off =>
    match σ[id]? with
    | some (.row v cells) => if v = ver ∧ off + n * es ≤ cells.length then k (.s id ver off n es) else none
    | _ => none
  | _ => none
theorem slaX_sound {n es : Nat} {x : V} {σ : List O} {k : V → Option α} (h : slaX n es x σ k = some r) : slaK n es x σ (fun v => k v = some r) := by
  unfold slaX at h
  split at h
  · split at h
    · rename_i h1
      split at h
      · rename_i hc; simp only [slaK, h1]; exact ⟨hc.1, hc.2, h⟩
      · cases h
    · cases h
  · cases h

def fadX (o : Nat) (x : V) (σ : List O) (k : V → Option α) : Option α :=
  match x with
  | .p id ver off => if liveB σ id ver = true then k (.p id ver (off + o)) else none
  | .sp cells off => k (.sp cells (off + o))
  | _ => none
theorem fadX_sound {o : Nat} {x : V} {σ : List O} {k : V → Option α} (h : fadX o x σ k = some r) : fadK o x σ (fun v => k v = some r) := by
  unfold fadX at h
  split at h
  · split at h
    · rename_i hc; exact ⟨liveB_live hc, h⟩
    · cases h
  · exact h
  · cases h

def ixaX (n es : Nat) (x i : V) (σ : List O) (k : V → Option α) : Option α :=
  match x, i with
  | .p id ver off, .i _ j => if liveB σ id ver = true ∧ 0 ≤ j ∧ j < n then k (.p id ver (off + j.toNat * es)) else none
  | .sp cells off, .i _ j => if 0 ≤ j ∧ j < n then k (.sp cells (off + j.toNat * es)) else none
  | _, _ => none
theorem ixaX_sound {n es : Nat} {x i : V} {σ : List O} {k : V → Option α} (h : ixaX n es x i σ k = some r) : ixaK n es x i σ (fun v => k v = some r) := by
  unfold ixaX at h
  split at h
  · split at h
    · rename_i hc; exact ⟨liveB_live hc.1, hc.2.1, hc.2.2, h⟩
    · cases h
  · split at h
    · rename_i hc; exact ⟨hc.1, hc.2, h⟩
    · cases h
  · cases h

def ixvX (n : Nat) (one : Option Nat) (x i : V) (k : V → Option α) : Option α :=
  match x, i with
  | .agg cs, .i _ j => if 0 ≤ j ∧ j < n then
      match one with
      | none => if cs.length = n then k (cs.getD j.toNat .u) else none
      | some s => if cs.length = n * s then fL ((cs.drop (j.toNat * s)).take s) fun l => k (.agg l) else none
    else none
  | _, _ => none
theorem ixvX_sound {n : Nat} {one : Option Nat} {x i : V} {k : V → Option α} (h : ixvX n one x i k = some r) : ixvK n one x i (fun v => k v = some r) := by
  unfold ixvX at h
  split at h
  · split at h
    · rename_i hc
      refine ⟨hc.1, hc.2, ?_⟩
      cases one with
      | none =>
        simp only at h ⊢
        split at h
        · rename_i hl; exact ⟨hl, h⟩
        · cases h
      | some s =>
        simp only [fL_eq] at h ⊢
        split at h
        · rename_i hl; exact ⟨hl, h⟩
        · cases h
    · cases h
  · cases h

def ixsX (es : Nat) (x i : V) (σ : List O) (k : V → Option α) : Option α :=
  match x, i with
  | .s id ver off len es', .i _ j => if es = es' ∧ liveB σ id ver = true ∧ 0 ≤ j ∧ j < len then k (.p id ver (off + j.toNat * es)) else none
  | .ss cells len _, .i _ j => if 0 ≤ j ∧ j < len then k (.sp cells (j.toNat * es)) else none
  | _, _ => none
theorem ixsX_sound {es : Nat} {x i : V} {σ : List O} {k : V → Option α} (h : ixsX es x i σ k = some r) : ixsK es x i σ (fun v => k v = some r) := by
  unfold ixsX at h
  split at h
  · split at h
    · rename_i hc; exact ⟨hc.1, liveB_live hc.2.1, hc.2.2.1, hc.2.2.2, h⟩
    · cases h
  · split at h
    · rename_i hc; exact ⟨hc.1, hc.2, h⟩
    · cases h
  · cases h

def rowX (es : Nat) (y : V) (σ : List O) (k : List V → Nat → Option α) : Option α :=
  match y with
  | .ss ys m _ => if ys.length = m * es then k ys m else none
  | .s id ver off m es' =>
    match σ[id]? with
    | some (.row v cells) => if v = ver ∧ es = es' ∧ off + m * es ≤ cells.length then fSp ((cells.drop off).take (m * es)) fun l => k l m else none
    | _ => none
  | _ => none
theorem rowX_sound {es : Nat} {y : V} {σ : List O} {k : List V → Nat → Option α} (h : rowX es y σ k = some r) : rowOf es y σ (fun l m => k l m = some r) := by
  unfold rowX at h
  split at h
  · split at h
    · rename_i hc; exact ⟨hc, h⟩
    · cases h
  · split at h
    · rename_i h1
      split at h
      · rename_i hc; simp only [rowOf, h1]; exact ⟨hc.1, hc.2.1, hc.2.2, by simpa using h⟩
      · cases h
    · cases h
  · cases h
theorem rowOf_mono {es : Nat} {y : V} {σ : List O} {K K' : List V → Nat → Prop} (h : rowOf es y σ K) (hk : ∀ l m, K l m → K' l m) : rowOf es y σ K' := by
  cases y with
  | ss ys m full => exact ⟨h.1, hk _ _ h.2⟩
  | s id ver off m es' =>
    simp only [rowOf] at h ⊢
    cases ho : σ[id]? with
    | none => rw [ho] at h; exact h
    | some o =>
      rw [ho] at h
      cases o with
      | row v cells => exact ⟨h.1, h.2.1, h.2.2.1, hk _ _ h.2.2.2⟩
      | _ => exact h
  | _ => exact h

def appX (es bytes : Nat) (x y : V) (σ : List O) (k : Kx α) : Option α :=
  rowX es y σ fun ys m =>
    match x with
    | .ss xs n true => if xs.length = n * es ∧ (n + m) * bytes ≤ 140737488355328 then
        (if m = 0 then k (.ss xs n true) σ else fSp (xs ++ ys) fun cs => fSp (σ ++ [.row 0 cs]) fun σ' => k (.s σ.length 0 0 (n + m) es) σ') else none
    | .s id ver off n es' =>
      match σ[id]? with
      | some (.row v cells) => if v = ver ∧ es = es' ∧ off + n * es = cells.length ∧ (n + m) * bytes ≤ 140737488355328 then
          (if m = 0 then k (.s id ver off n es) σ else fSp (cells.drop off ++ ys) fun cs => fSp (σ.set id (.row (ver + 1) cs)) fun σ' => k (.s id (ver + 1) 0 (n + m) es) σ') else none
      | _ => none
    | _ => none
theorem appX_sound {es bytes : Nat} {x y : V} {σ : List O} {k : Kx α} (h : appX es bytes x y σ k = some r) : appK es bytes x y σ (fun v σ => k v σ = some r) := by
  refine rowOf_mono (rowX_sound h) (fun ys m h => ?_)
  split at h
  · split at h
    · rename_i hc
      refine ⟨hc.1, hc.2, ?_⟩
      split at h
      · rename_i h0; rw [if_pos h0]; exact h
      · rename_i h0; rw [if_neg h0]; simpa using h
    · cases h
  · split at h
    · rename_i h1
      split at h
      · rename_i hc
        simp only [h1]
        refine ⟨hc.1, hc.2.1, hc.2.2.1, hc.2.2.2, ?_⟩
        split at h
        · rename_i h0; rw [if_pos h0]; exact h
        · rename_i h0; rw [if_neg h0]; simpa using h
      · cases h
    · cases h
  · cases h

def lenX (x : V) (σ : List O) (k : V → Option α) : Option α :=
  match x with
  | .s id ver _ len _ => if liveB σ id ver = true then k (.i .i64 len) else none
  | .ss _ len _ => k (.i .i64 len)
  | _ => none
theorem lenX_sound {x : V} {σ : List O} {k : V → Option α} (h : lenX x σ k = some r) : lenK x σ (fun v => k v = some r) := by
  unfold lenX at h
  split at h
  · split at h
    · rename_i hc; exact ⟨liveB_live hc, h⟩
    · cases h
  · exact h
  · cases h

def lenmX (x : V) (σ : List O) (k : V → Option α) : Option α :=
  match x with
  | .sm l => k (.i .i64 l.length)
  | .m id => match σ[id]? with
    | some (.map es _) => k (.i .i64 es.length)
    | _ => none
  | .nm => k (.i .i64 0)
  | _ => none
theorem lenmX_sound {x : V} {σ : List O} {k : V → Option α} (h : lenmX x σ k = some r) : lenmK x σ (fun v => k v = some r) := by
  unfold lenmX at h
  split at h
  · exact h
  · split at h
    · rename_i h1; simp only [lenmK, h1]; exact h
    · cases h
  · exact h
  · cases h

def lensX (x : V) (k : V → Option α) : Option α :=
  match x with
  | .str s => k (.i .i64 s.size)
  | _ => none
theorem lensX_sound {x : V} {k : V → Option α} (h : lensX x k = some r) : lensK x (fun v => k v = some r) := by
  unfold lensX at h
  split at h
  · exact h
  · cases h

def clrX (es : Nat) (zs : List V) (x : V) (σ : List O) (k : Kx α) : Option α :=
  match x with
  | .s id ver off n es' =>
    match σ[id]? with
    | some (.row v cells) => if v = ver ∧ es = es' ∧ off + n * es ≤ cells.length then fSp (splice cells off (rep n zs)) fun cs => fSp (σ.set id (.row v cs)) fun σ => k .u σ else none
    | _ => none
  | .ss [] 0 _ => k .u σ
  | _ => none
theorem clrX_sound {es : Nat} {zs : List V} {x : V} {σ : List O} {k : Kx α} (h : clrX es zs x σ k = some r) : clrK es zs x σ (fun v σ => k v σ = some r) := by
  unfold clrX at h
  split at h
  · split at h
    · rename_i h1
      split at h
      · rename_i hc; simp only [clrK, h1]; exact ⟨hc.1, hc.2.1, hc.2.2, by simpa using h⟩
      · cases h
    · cases h
  · exact h
  · cases h

def cpyX (es : Nat) (d s : V) (σ : List O) (k : Kx α) : Option α :=
  rowX es s σ fun ys m =>
    match d with
    | .s id ver off n es' =>
      match σ[id]? with
      | some (.row v cells) => if v = ver ∧ es = es' ∧ off + n * es ≤ cells.length then fSp (splice cells off (ys.take (min m n * es))) fun cs => fSp (σ.set id (.row v cs)) fun σ => k (.i .i64 (min m n : Nat)) σ else none
      | _ => none
    | .ss [] 0 _ => k (.i .i64 0) σ
    | _ => none
theorem cpyX_sound {es : Nat} {d s : V} {σ : List O} {k : Kx α} (h : cpyX es d s σ k = some r) : cpyK es d s σ (fun v σ => k v σ = some r) := by
  refine rowOf_mono (rowX_sound h) (fun ys m h => ?_)
  split at h
  · split at h
    · rename_i h1
      split at h
      · rename_i hc; simp only [h1]; exact ⟨hc.1, hc.2.1, hc.2.2, by simpa using h⟩
      · cases h
    · cases h
  · exact h
  · cases h

def mxX (f : Int → Int → Int) : List V → (V → Option α) → Option α
  | .i q a :: r, k => match intsOf r with
    | some l => k (.i q (l.foldl f a))
    | none => none
  | _, _ => none
theorem mxX_sound {f : Int → Int → Int} {l : List V} {k : V → Option α} (h : mxX f l k = some r) : mxK f l (fun v => k v = some r) := by
  unfold mxX at h
  split at h
  · split at h
    · rename_i h1; simp only [mxK, h1]; exact h
    · cases h
  · cases h

def extX (i : Nat) (x : V) (k : V → Option α) : Option α :=
  match x with
  | .tup vs => match vs[i]? with | some v => k v | none => none
  | _ => none
theorem extX_sound {i : Nat} {x : V} {k : V → Option α} (h : extX i x k = some r) : extK i x (fun v => k v = some r) := by
  unfold extX at h
  split at h
  · split at h
    · rename_i h2
      obtain ⟨h3, h4⟩ := getD_of h2
      exact ⟨h3, by rw [h4]; exact h⟩
    · cases h
  · cases h

def keysB (q : IntKind) (n : Nat) : List (V × V) → Bool
  | [] => true
  | e :: r => (keyOf q n e.1).isSome && keysB q n r
theorem keysB_ok {q : IntKind} {n : Nat} : ∀ {l : List (V × V)}, keysB q n l = true → keysOK q n l
  | [], _ => by intro e he; cases he
  | e :: l, h => by
    simp only [keysB, Bool.and_eq_true] at h
    intro e' he
    rcases List.mem_cons.1 he with rfl | he
    · exact Option.isSome_iff_exists.1 h.1
    · exact keysB_ok h.2 e' he

def lkfX (q : IntKind) (n : Nat) (zs : V) (ok : Bool) (ks : List Int) (l : List (V × V)) (k : V → Option α) : Option α :=
  if keysB q n l = true then
    match findM q n ks l with
    | some v => k (if ok then .tup [v, .b true] else v)
    | none => k (if ok then .tup [zs, .b false] else zs)
  else none
theorem lkfX_sound {q n zs ok ks l} {k : V → Option α} (h : lkfX q n zs ok ks l k = some r) : lkpF q n zs ok ks l (fun v => k v = some r) := by
  unfold lkfX at h
  split at h
  · rename_i hc
    refine ⟨keysB_ok hc, ?_⟩
    split at h
    · rename_i h1; simp only [h1]; exact h
    · rename_i h1; simp only [h1]; exact h
  · cases h

def lkpX (q : IntKind) (n : Nat) (zs : V) (ok : Bool) (x k : V) (σ : List O) (c : V → Option α) : Option α :=
  match keyOf q n k with
  | some ks =>
    match x with
    | .sm l => lkfX q n zs ok ks l c
    | .m id => match σ[id]? with
      | some (.map es _) => lkfX q n zs ok ks (es.map (·.2)) c
      | _ => none
    | .nm => c (if ok then .tup [zs, .b false] else zs)
    | _ => none
  | none => none
theorem lkpX_sound {q n zs ok} {x k : V} {σ : List O} {c : V → Option α} (h : lkpX q n zs ok x k σ c = some r) : lkpK q n zs ok x k σ (fun v => c v = some r) := by
  unfold lkpX at h
  split at h
  · rename_i h1
    simp only [lkpK, h1]
    split at h
    · exact lkfX_sound h
    · split at h
      · rename_i h2; simp only [h2]; exact lkfX_sound h
      · cases h
    · exact h
    · cases h
  · cases h

def msetX (q : IntKind) (n : Nat) (x k v : V) (σ : List O) (c : Kx α) : Option α :=
  match keyOf q n k, x with
  | some ks, .m id =>
    match σ[id]? with
    | some (.map es clock) => if keysB q n (es.map (·.2)) = true then
      (match idxM q n ks (es.map (·.2)) with
      | some i => fSp (es.modify i fun e => (e.1, k, v)) fun es => fSp (σ.set id (.map es clock)) fun σ => c .u σ
      | none => fSp (es ++ [(clock, k, v)]) fun es => fN (clock + 1) fun cl => fSp (σ.set id (.map es cl)) fun σ => c .u σ) else none
    | _ => none
  | _, _ => none
theorem msetX_sound {q n} {x k v : V} {σ : List O} {c : Kx α} (h : msetX q n x k v σ c = some r) : msetK q n x k v σ (fun v σ => c v σ = some r) := by
  unfold msetX at h
  split at h
  · rename_i h0
    split at h
    · rename_i h1
      split at h
      · rename_i hc
        simp only [msetK, h0, h1]
        refine ⟨keysB_ok hc, ?_⟩
        split at h
        · rename_i h2; simp only [h2]; simpa using h
        · rename_i h2; simp only [h2]; simpa using h
      · cases h
    · cases h
  · cases h

def mdelX (q : IntKind) (n : Nat) (x k : V) (σ : List O) (c : Kx α) : Option α :=
  match keyOf q n k, x with
  | some ks, .m id =>
    match σ[id]? with
    | some (.map es clock) => if keysB q n (es.map (·.2)) = true then
      (match idxM q n ks (es.map (·.2)) with
      | some i => fSp (es.eraseIdx i) fun es => fSp (σ.set id (.map es clock)) fun σ => c .u σ
      | none => c .u (σ.set id (.map es clock))) else none
    | _ => none
  | _, _ => none
theorem mdelX_sound {q n} {x k : V} {σ : List O} {c : Kx α} (h : mdelX q n x k σ c = some r) : mdelK q n x k σ (fun v σ => c v σ = some r) := by
  unfold mdelX at h
  split at h
  · rename_i h0
    split at h
    · rename_i h1
      split at h
      · rename_i hc
        simp only [mdelK, h0, h1]
        refine ⟨keysB_ok hc, ?_⟩
        split at h
        · rename_i h2; simp only [h2]; simpa using h
        · rename_i h2; simp only [h2]; simpa using h
      · cases h
    · cases h
  · cases h

def evX (g : Od → V) (σ : List O) (k : Kx α) : IOp → Option α
  | .mov x => k (g x) σ
  | .pick c a b => match g c with
    | .b t => k (if t then g a else g b) σ
    | _ => none
  | .alloc zs => fSp (σ ++ [.row 0 zs]) fun σ' => k (.p σ.length 0 0) σ'
  | .box x => match cellsOf (g x) with
    | some cs => fL cs fun cs => fSp (σ ++ [.row 0 cs]) fun σ' => k (.p σ.length 0 0) σ'
    | none => none
  | .build zs ps => match fillV zs (ps.map fun p => (p.1, p.2.1, g p.2.2)) with
    | some cs => fL cs fun cs => k (.agg cs) σ
    | none => none
  | .bsl frz es n zs ps => match fillV zs (ps.map fun p => (p.1, p.2.1, g p.2.2)) with
    | some cs => if frz then fL cs fun cs => k (.ss cs n true) σ else fL cs fun cs => fSp (σ ++ [.row 0 cs]) fun σ' => k (.s σ.length 0 0 n es) σ'
    | none => none
  | .load1 a => ld1X (g a) σ fun v => k v σ
  | .loadA n a => ldAX n (g a) σ fun v => k v σ
  | .store1 a x => st1X (g a) (g x) σ k
  | .storeA n a x => stAX n (g a) (g x) σ k
  | .nilc x => nilX (g x) σ fun v => k v σ
  | .bin op x y => binX op (g x) (g y) fun v => k v σ
  | .eqv q n neq x y => eqvX q n neq (g x) (g y) fun v => k v σ
  | .eqb neq x y => eqbX neq (g x) (g y) fun v => k v σ
  | .not x => match g x with
    | .b t => k (.b (!t)) σ
    | _ => none
  | .neg x => match g x with
    | .i q n => k (.i q (q.wrap (0 - n))) σ
    | _ => none
  | .conv q x => match g x with
    | .i _ n => k (.i q (q.wrap n)) σ
    | _ => none
  | .mkf fn first cap => fL (first.map g) fun a => fL (cap.map g) fun b => k (.f fn a b) σ
  | .mkmap => fSp (σ ++ [.map [] 0]) fun σ' => k (.m σ.length) σ'
  | .mksl es bytes zs l c => match g l, g c with
    | .i _ n, .i _ n' => if n = n' ∧ 0 ≤ n ∧ n ≤ 281474976710656 ∧ bytes * n ≤ 281474976710656 then fSp (rep n.toNat zs) fun cs => fSp (σ ++ [.row 0 cs]) fun σ' => k (.s σ.length 0 0 n.toNat es) σ' else none
    | _, _ => none
  | .slc es x lo hi mx => slcX es (g x) (lo.map g) (hi.map g) (mx.map g) σ fun v => k v σ
  | .sla n es x => slaX n es (g x) σ fun v => k v σ
  | .fad o x => fadX o (g x) σ fun v => k v σ
  | .fld1 off x => match g x with
    | .agg cs => (match cs[off]? with | some v => k v σ | none => none)
    | _ => none
  | .fldA off size x => match g x with
    | .agg cs => if off + size ≤ cs.length then fL ((cs.drop off).take size) fun l => k (.agg l) σ else none
    | _ => none
  | .ixa n es x i => ixaX n es (g x) (g i) σ fun v => k v σ
  | .ixs es x i => ixsX es (g x) (g i) σ fun v => k v σ
  | .ixv n one x i => ixvX n one (g x) (g i) fun v => k v σ
  | .ext i x => extX i (g x) fun v => k v σ
  | .len x => lenX (g x) σ fun v => k v σ
  | .lenm x => lenmX (g x) σ fun v => k v σ
  | .lens x => lensX (g x) fun v => k v σ
  | .app es bytes x y => appX es bytes (g x) (g y) σ k
  | .clr es zs x => clrX es zs (g x) σ k
  | .cpy es d s => cpyX es (g d) (g s) σ k
  | .mx xs => mxX max (xs.map g) fun v => k v σ
  | .mn xs => mxX min (xs.map g) fun v => k v σ
  | .lkp q n zs ok x y => lkpX q n zs ok (g x) (g y) σ fun v => k v σ
  | .mset q n x y v => msetX q n (g x) (g y) (g v) σ k
  | .mdel q n x y => mdelX q n (g x) (g y) σ k
  | _ => none

theorem evX_sound {g : Od → V} {σ : List O} {k : Kx α} {io : IOp} (h : evX g σ k io = some r) : evK g σ (fun v σ => k v σ = some r) io := by
  cases io with
  | mov x => exact h
  | pick c a b =>
    simp only [evX] at h
    split at h
    · rename_i h1; simp only [evK, h1]; exact h
    · cases h
  | alloc zs => simpa [evX, evK] using h
  | box x =>
    simp only [evX] at h
    split at h
    · rename_i h1; simp only [evK, h1]; simpa using h
    · cases h
  | build zs ps =>
    simp only [evX] at h
    split at h
    · rename_i h1; simp only [evK, h1]; simpa using h
    · cases h
  | bsl frz es n zs ps =>
    simp only [evX] at h
    split at h
    · rename_i h1; simp only [evK, h1]
      cases frz <;> simpa using h
    · cases h
  | load1 a => simp only [evX] at h; exact ld1X_sound h
  | loadA n a => simp only [evX] at h; exact ldAX_sound h
  | store1 a x => simp only [evX] at h; exact st1X_sound h
  | storeA n a x => simp only [evX] at h; exact stAX_sound h
  | nilc x => simp only [evX] at h; exact nilX_sound h
  | bin op x y => simp only [evX] at h; exact binX_sound h
  | eqv q n neq x y => simp only [evX] at h; exact eqvX_sound h
  | eqb neq x y => simp only [evX] at h; exact eqbX_sound h
  | not x =>
    simp only [evX] at h
    split at h
    · rename_i h1; simp only [evK, h1]; exact h
    · cases h
  | neg x =>
    simp only [evX] at h
    split at h
    · rename_i h1; simp only [evK, h1]; exact h
    · cases h
  | conv q x =>
    simp only [evX] at h
    split at h
    · rename_i h1; simp only [evK, h1]; exact h
    · cases h
  | mkf fn first cap => simpa [evX, evK] using h
  | mkmap => simpa [evX, evK] using h
  | mksl es bytes zs l c =>
    simp only [evX] at h
    split at h
    · rename_i h1 h2
      split at h
      · rename_i hc
        simp only [evK, h1, h2]
        exact ⟨hc.1, hc.2.1, hc.2.2.1, hc.2.2.2, by simpa using h⟩
      · cases h
    · cases h
  | slc es x lo hi mx => simp only [evX] at h; exact slcX_sound h
  | sla n es x => simp only [evX] at h; exact slaX_sound h
  | fad o x => simp only [evX] at h; exact fadX_sound h
  | fld1 off x =>
    simp only [evX] at h
    split at h
    · rename_i h1
      split at h
      · rename_i h2
        obtain ⟨h3, h4⟩ := getD_of h2
        simp only [evK, h1]
        exact ⟨h3, by rw [h4]; exact h⟩
      · cases h
    · cases h
  | fldA off size x =>
    simp only [evX] at h
    split at h
    · rename_i h1
      split at h
      · rename_i hc; simp only [evK, h1]; exact ⟨hc, by simpa using h⟩
      · cases h
    · cases h
  | ixa n es x i => simp only [evX] at h; exact ixaX_sound h
  | ixs es x i => simp only [evX] at h; exact ixsX_sound h
  | ixv n one x i => simp only [evX] at h; exact ixvX_sound h
  | ext i x => simp only [evX] at h; exact extX_sound h
  | len x => simp only [evX] at h; exact lenX_sound h
  | lenm x => simp only [evX] at h; exact lenmX_sound h
  | lens x => simp only [evX] at h; exact lensX_sound h
  | app es bytes x y => simp only [evX] at h; exact appX_sound h
  | clr es zs x => simp only [evX] at h; exact clrX_sound h
  | cpy es d s => simp only [evX] at h; exact cpyX_sound h
  | mx xs => simp only [evX] at h; exact mxX_sound h
  | mn xs => simp only [evX] at h; exact mxX_sound h
  | lkp q n zs ok x y => simp only [evX] at h; exact lkpX_sound h
  | mset q n x y v => simp only [evX] at h; exact msetX_sound h
  | mdel q n x y => simp only [evX] at h; exact mdelX_sound h
  | _ => simp [evX] at h
end

theorem evK_mono {g : Od → V} {σ : List O} {K K' : V → List O → Prop} (hk : ∀ v σ, K v σ → K' v σ) {io : IOp} (h : evK g σ K io) : evK g σ K' io := by
  cases io <;> simp only [evK, ld1K, ldAK, st1K, stAK, nilcK, binK, eqvK, eqbK, slcK, slcB, slaK, fadK, ixaK, ixvK, ixsK, lenK, lenmK, lensK, clrK, extK, lkpK, lkpF, msetK, mdelK, rngK, nxtK, entK] at h ⊢
  case mov => exact hk _ _ h
  case nxt =>
    split at h
    · split at h
      · split at h
        · rename_i h1 h2
          try simp only [h1, h2]
          obtain ⟨a1, a2, a3, a4, a5, a6, a7⟩ := h
          exact ⟨a1, a2, a3, a4, a5, fun a => hk _ _ (a6 a), fun e he hs => hk _ _ (a7 e he hs)⟩
        · exact h.elim
      · exact h.elim
    · exact h.elim
  case app =>
    refine rowOf_mono h (fun ys m h => ?_)
    split at h
    · refine ⟨h.1, h.2.1, ?_⟩
      have h := h.2.2
      split at h
      · rw [if_pos (by assumption)]; exact hk _ _ h
      · rw [if_neg (by assumption)]; exact hk _ _ h
    · split at h
      · rename_i h1
        try simp only [h1]
        refine ⟨h.1, h.2.1, h.2.2.1, h.2.2.2.1, ?_⟩
        have h := h.2.2.2.2
        split at h
        · rw [if_pos (by assumption)]; exact hk _ _ h
        · rw [if_neg (by assumption)]; exact hk _ _ h
      · exact h.elim
    · exact h.elim
  case cpy =>
    refine rowOf_mono h (fun ys m h => ?_)
    split at h
    · split at h
      · rename_i h1
        try simp only [h1]
        exact ⟨h.1, h.2.1, h.2.2.1, hk _ _ h.2.2.2⟩
      · exact h.elim
    · exact hk _ _ h
    · exact h.elim
  case pick => split at h <;> simp_all
  case alloc => exact hk _ _ h
  case box => split at h <;> simp_all
  case build => split at h <;> simp_all
  case bsl frz _ _ _ _ => cases frz <;> (split at h <;> first | (exact h.elim) | (simp_all))
  case mkf => exact hk _ _ h
  case mkmap => exact hk _ _ h
  case mx xs => cases hx : xs.map g with
    | nil => rw [hx] at h; exact h
    | cons a r =>
      rw [hx] at h
      cases a <;> simp only [mxK] at h ⊢
      split at h <;> simp_all
  case mn xs => cases hx : xs.map g with
    | nil => rw [hx] at h; exact h
    | cons a r =>
      rw [hx] at h
      cases a <;> simp only [mxK] at h ⊢
      split at h <;> simp_all
  all_goals (repeat' split at h)
  all_goals first | exact h.elim | skip
  all_goals (try simp_all)
  all_goals (repeat' split)
  all_goals (try simp_all)
  all_goals (try (obtain ⟨rfl, h⟩ := h; simp_all; done))
  all_goals (try (obtain ⟨rfl, rfl, h⟩ := h; simp_all; done))

end Go.Ab
