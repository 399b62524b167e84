import Derived.Test.YtgndegccjhdmmaaGreatPDx5
import Derived.Below
import Derived.Carry
/- Part 6 of what the theorem in TC rests on: an abstract layer over the calculus, contracts of the functions of the program, and plain facts. -/
set_option linter.unusedVariables false
set_option linter.unusedSimpArgs false
set_option linter.constructorNameAsVariable false
set_option maxHeartbeats 4000000
set_option maxRecDepth 100000
section
section
namespace Go.Ab
open Go
section
variable {α : Type}
def fN (n : Nat) (c : Nat → α) : α := match n with | 0 => c 0 | m + 1 => c (m + 1)
@[simp] theorem fN_eq {n : Nat} {c : Nat → α} : fN n c = c n := by cases n <;> rfl
def fI (n : Int) (c : Int → α) : α := match n with | .ofNat m => fN m fun m => c (.ofNat m) | .negSucc m => fN m fun m => c (.negSucc m)
@[simp] theorem fI_eq {n : Int} {c : Int → α} : fI n c = c n := by cases n <;> simp [fI]
def fV (v : V) (c : V → α) : α := match v with
 | .u => c .u
 | .b x => (match x with | true => c (.b true) | false => c (.b false))
 | .i k n => fI n fun n => c (.i k n)
 | .str s => c (.str s)
 | .np => c .np
 | .p id ver off => fN id fun id => fN ver fun ver => fN off fun off => c (.p id ver off)
 | .sp cs off => fN off fun off => c (.sp cs off)
 | .s id ver off len es => fN id fun id => fN ver fun ver => fN off fun off => fN len fun len => c (.s id ver off len es)
 | .ss cs len full => fN len fun len => c (.ss cs len full)
 | .nm => c .nm
 | .m id => fN id fun id => c (.m id)
 | .sm es => c (.sm es)
 | .nf => c .nf
 | .f fn a b => c (.f fn a b)
 | .agg cs => c (.agg cs)
 | .tup vs => c (.tup vs)
@[simp] theorem fV_eq {v : V} {c : V → α} : fV v c = c v := by
 cases v <;> simp [fV]
 split <;> rfl
def fSp {β : Type} : List β → (List β → α) → α
 | [], c => c []
 | x :: r, c => fSp r fun r => c (x :: r)
@[simp] theorem fSp_eq {β : Type} : ∀ {l : List β} {c : List β → α}, fSp l c = c l
 | [], c => rfl
 | x :: r, c => by rw [fSp, fSp_eq]
def fL : List V → (List V → α) → α
 | [], c => c []
 | x :: r, c => fV x fun x => fL r fun r => c (x :: r)
@[simp] theorem fL_eq : ∀ {l : List V} {c : List V → α}, fL l c = c l
 | [], c => rfl
 | x :: r, c => by rw [fL, fV_eq, fL_eq]
abbrev Kx (α : Type) := V → List O → Option α
def liveB (σ : List O) (id ver : Nat) : Bool := match σ[id]? with | some o => o.ver == ver | none => false
theorem liveB_live {σ : List O} {id ver : Nat} (h : liveB σ id ver = true) : liveV σ id ver := by
 unfold liveB at h
 split at h
 ·rename_i o ho
  simp only [beq_iff_eq] at h
  rw [liveV, ho]
  exact congrArg some h
 ·cases h
def binX (op : BinOp) (x y : V) (k : V → Option α) : Option α :=
 match x, y with
 | .i q a, .i q' b =>
  match op with
  | .shl => if 0 ≤ b then k (.i q (q.wrap (a * 2 ^ (min b.toNat q.bits)))) else none
  | .shr => if 0 ≤ b then k (.i q (a.fdiv (2 ^ (min b.toNat q.bits)))) else none
  | .add => if q = q' then k (.i q (q.wrap (a + b))) else none
  | .sub => if q = q' then k (.i q (q.wrap (a - b))) else none
  | .mul => if q = q' then k (.i q (q.wrap (a * b))) else none
  | .quo => if q = q' ∧ b ≠ 0 then k (.i q (q.wrap (a.tdiv b))) else none
  | .rem => if q = q' ∧ b ≠ 0 then k (.i q (a.tmod b)) else none
  | .and => if q = q' then k (.i q (bitop .and q a b)) else none
  | .or => if q = q' then k (.i q (bitop .or q a b)) else none
  | .xor => if q = q' then k (.i q (bitop .xor q a b)) else none
  | .andNot => if q = q' then k (.i q (bitop .andNot q a b)) else none
  | .eql => if q = q' then k (.b (decide (a = b))) else none
  | .neq => if q = q' then k (.b (!decide (a = b))) else none
  | .lss => if q = q' then k (.b (decide (a < b))) else none
  | .leq => if q = q' then k (.b (decide (a ≤ b))) else none
  | .gtr => if q = q' then k (.b (decide (b < a))) else none
  | .geq => if q = q' then k (.b (decide (b ≤ a))) else none
 | _, _ => none
variable {r : α}
theorem binX_sound {op : BinOp} {x y : V} {k : V → Option α} (h : binX op x y k = some r) : binK op x y (fun v => k v = some r) := by
 unfold binX at h
 split at h
 ·cases op <;> dsimp only [binK] at h ⊢ <;> (split at h <;> first | cases h | (rename_i hc; first | exact ⟨hc, h⟩ | exact ⟨hc.1, hc.2, h⟩))
 ·cases h
def eqvX (q : IntKind) (n : Nat) (neq : Bool) (x y : V) (k : V → Option α) : Option α :=
 match x, y with
 | .agg xs, .agg ys =>
  match intsK q xs, intsK q ys with
  | some a, some b => if xs.length = n ∧ ys.length = n then k (.b (if neq then !decide (a = b) else decide (a = b))) else none
  | _, _ => none
 | _, _ => none
theorem eqvX_sound {q n neq} {x y : V} {k : V → Option α} (h : eqvX q n neq x y k = some r) : eqvK q n neq x y (fun v => k v = some r) := by
 unfold eqvX at h
 split at h
 ·split at h
  ·rename_i h1 h2
   split at h
   ·rename_i hc
    simp only [eqvK, h1, h2]
    exact ⟨hc.1, hc.2, h⟩
   ·cases h
  ·cases h
 ·cases h
def eqbX (neq : Bool) (x y : V) (k : V → Option α) : Option α :=
 match x, y with
 | .b a, .b b => k (.b (if neq then !(a == b) else a == b))
 | _, _ => none
theorem eqbX_sound {neq} {x y : V} {k : V → Option α} (h : eqbX neq x y k = some r) : eqbK neq x y (fun v => k v = some r) := by
 unfold eqbX at h
 split at h
 ·exact h
 ·cases h
def ld1X (a : V) (σ : List O) (k : V → Option α) : Option α :=
 match a with
 | .p id ver off =>
  match σ[id]? with
  | some (.row v cells) => if v = ver then (match cells[off]? with | some x => k x | none => none) else none
  | _ => none
 | .sp cells off => match cells[off]? with | some x => k x | none => none
 | _ => none
theorem getD_of {cells : List V} {off : Nat} {x : V} (h : cells[off]? = some x) : off < cells.length ∧ cells.getD off .u = x := by
 have := (List.getElem?_eq_some_iff.1 h).1
 exact ⟨this, by rw [List.getD_eq_getElem?_getD, h]; rfl⟩
theorem ld1X_sound {a : V} {σ : List O} {k : V → Option α} (h : ld1X a σ k = some r) : ld1K a σ (fun v => k v = some r) := by
 unfold ld1X at h
 split at h
 ·split at h
  ·rename_i h1
   split at h
   ·rename_i hv
    split at h
    ·rename_i h2
     obtain ⟨h3, h4⟩ := getD_of h2
     simp only [ld1K, h1]
     exact ⟨hv, h3, by rw [h4]; exact h⟩
    ·cases h
   ·cases h
  ·cases h
 ·split at h
  ·rename_i h2
   obtain ⟨h3, h4⟩ := getD_of h2
   simp only [ld1K]
   exact ⟨h3, by rw [h4]; exact h⟩
  ·cases h
 ·cases h
def ldAX (n : Nat) (a : V) (σ : List O) (k : V → Option α) : Option α :=
 match a with
 | .p id ver off =>
  match σ[id]? with
  | some (.row v cells) => if v = ver ∧ off + n ≤ cells.length then fL ((cells.drop off).take n) fun l => k (.agg l) else none
  | _ => none
 | .sp cells off => if off + n ≤ cells.length then fL ((cells.drop off).take n) fun l => k (.agg l) else none
 | _ => none
theorem ldAX_sound {n} {a : V} {σ : List O} {k : V → Option α} (h : ldAX n a σ k = some r) : ldAK n a σ (fun v => k v = some r) := by
 unfold ldAX at h
 split at h
 ·split at h
  ·rename_i h1
   split at h
   ·rename_i hv
    simp only [ldAK, h1]
    exact ⟨hv.1, hv.2, by simpa using h⟩
   ·cases h
  ·cases h
 ·split at h
  ·rename_i hv
   simp only [ldAK]
   exact ⟨hv, by simpa using h⟩
  ·cases h
 ·cases h
def isOne : V → Bool
 | .u => false
 | .tup _ => false
 | .agg _ => false
 | _ => true
theorem isOne_cells {x : V} (h : isOne x = true) : cellsOf x = some [x] := by
 cases x <;> first | rfl | cases h
def st1X (a x : V) (σ : List O) (k : Kx α) : Option α :=
 match a with
 | .p id ver off =>
  match σ[id]? with
  | some (.row v cells) => if v = ver ∧ off < cells.length ∧ isOne x = true then fV x fun x => fSp (cells.set off x) fun cells => fSp (σ.set id (.row v cells)) fun σ => k .u σ else none
  | _ => none
 | _ => none
theorem st1X_sound {a x : V} {σ : List O} {k : Kx α} (h : st1X a x σ k = some r) : st1K a x σ (fun v σ => k v σ = some r) := by
 unfold st1X at h
 split at h
 ·split at h
  ·rename_i h1
   split at h
   ·rename_i hv
    simp only [st1K, h1]
    exact ⟨hv.1, hv.2.1, isOne_cells hv.2.2, by simpa using h⟩
   ·cases h
  ·cases h
 ·cases h
def stAX (n : Nat) (a x : V) (σ : List O) (k : Kx α) : Option α :=
 match a, x with
 | .p id ver off, .agg xs =>
  match σ[id]? with
  | some (.row v cells) => if v = ver ∧ xs.length = n ∧ off + n ≤ cells.length then fSp (splice cells off xs) fun cells => fSp (σ.set id (.row v cells)) fun σ => k .u σ else none
  | _ => none
 | _, _ => none
theorem stAX_sound {n} {a x : V} {σ : List O} {k : Kx α} (h : stAX n a x σ k = some r) : stAK n a x σ (fun v σ => k v σ = some r) := by
 unfold stAX at h
 split at h
 ·split at h
  ·rename_i h1
   split at h
   ·rename_i hv
    simp only [stAK, h1]
    exact ⟨hv.1, hv.2.1, hv.2.2, by simpa using h⟩
   ·cases h
  ·cases h
 ·cases h
def nilX (x : V) (σ : List O) (k : V → Option α) : Option α :=
 match x with
 | .p id ver off => if liveB σ id ver = true then k (.p id ver off) else none
 | .sp cs off => k (.sp cs off)
 | .f (.func f) a b => k (.f (.func f) a b)
 | _ => none
theorem nilX_sound {x : V} {σ : List O} {k : V → Option α} (h : nilX x σ k = some r) : nilcK x σ (fun v => k v = some r) := by
 unfold nilX at h
 split at h
 ·split at h
  ·rename_i hc; exact ⟨liveB_live hc, h⟩
  ·cases h
 ·exact h
 ·exact h
 ·cases h
def slbX (len : Nat) (lo hi mx : Option V) (k : Nat → Nat → Option Nat → Option α) : Option α :=
 match mx with
 | none =>
  match hi with
  | none =>
   match lo with
   | none => k 0 len none
   | some (.i _ l) => if 0 ≤ l ∧ l ≤ len then k l.toNat len none else none
   | _ => none
  | some (.i _ h) =>
   match lo with
   | none => if 0 ≤ h ∧ h ≤ len then k 0 h.toNat none else none
   | some (.i _ l) => if 0 ≤ l ∧ l ≤ h ∧ h ≤ len then k l.toNat h.toNat none else none
   | _ => none
  | _ => none
 | some (.i _ m) =>
  match hi with
  | some (.i _ h) =>
   match lo with
   | none => if 0 ≤ h ∧ h ≤ m ∧ m ≤ len then k 0 h.toNat (some m.toNat) else none
   | some (.i _ l) => if 0 ≤ l ∧ l ≤ h ∧ h ≤ m ∧ m ≤ len then k l.toNat h.toNat (some m.toNat) else none
   | _ => none
  | _ => none
 | _ => none
theorem slbX_sound {len : Nat} {lo hi mx : Option V} {k : Nat → Nat → Option Nat → Option α} (h : slbX len lo hi mx k = some r) : slcB len lo hi mx (fun a b c => k a b c = some r) := by
 unfold slbX at h
 repeat' split at h
 all_goals first | cases h | skip
 all_goals simp only [slcB]
 all_goals simp_all
def slcX (es : Nat) (x : V) (lo hi mx : Option V) (σ : List O) (k : V → Option α) : Option α :=
 match x with
 | .s id ver off len es' => if es = es' ∧ liveB σ id ver = true then slbX len lo hi mx fun l h _ => k (.s id ver (off + l * es) (h - l) es) else none
 | .ss cells len full => slbX len lo hi mx fun l h m => fL ((cells.drop (l * es)).take ((h - l) * es)) fun cs => k (.ss cs (h - l) (fullOf m h len full))
 | _ => none
theorem slcX_sound {es : Nat} {x : V} {lo hi mx : Option V} {σ : List O} {k : V → Option α} (h : slcX es x lo hi mx σ k = some r) : slcK es x lo hi mx σ (fun v => k v = some r) := by
 unfold slcX at h
 split at h
 ·split at h
  ·rename_i hc; exact ⟨hc.1, liveB_live hc.2, slbX_sound h⟩
  ·cases h
 ·simp only [fL_eq] at h; exact slbX_sound h
 ·cases h
def slaX (n es : Nat) (x : V) (σ : List O) (k : V → Option α) : Option α :=
 match x with
 | .p id ver off =>
  match σ[id]? with
  | some (.row v cells) => if v = ver ∧ off + n * es ≤ cells.length then k (.s id ver off n es) else none
  | _ => none
 | _ => none
theorem slaX_sound {n es : Nat} {x : V} {σ : List O} {k : V → Option α} (h : slaX n es x σ k = some r) : slaK n es x σ (fun v => k v = some r) := by
 unfold slaX at h
 split at h
 ·split at h
  ·rename_i h1
   split at h
   ·rename_i hc; simp only [slaK, h1]; exact ⟨hc.1, hc.2, h⟩
   ·cases h
  ·cases h
 ·cases h
def fadX (o : Nat) (x : V) (σ : List O) (k : V → Option α) : Option α :=
 match x with
 | .p id ver off => if liveB σ id ver = true then k (.p id ver (off + o)) else none
 | .sp cells off => k (.sp cells (off + o))
 | _ => none
theorem fadX_sound {o : Nat} {x : V} {σ : List O} {k : V → Option α} (h : fadX o x σ k = some r) : fadK o x σ (fun v => k v = some r) := by
 unfold fadX at h
 split at h
 ·split at h
  ·rename_i hc; exact ⟨liveB_live hc, h⟩
  ·cases h
 ·exact h
 ·cases h
def ixaX (n es : Nat) (x i : V) (σ : List O) (k : V → Option α) : Option α :=
 match x, i with
 | .p id ver off, .i _ j => if liveB σ id ver = true ∧ 0 ≤ j ∧ j < n then k (.p id ver (off + j.toNat * es)) else none
 | .sp cells off, .i _ j => if 0 ≤ j ∧ j < n then k (.sp cells (off + j.toNat * es)) else none
 | _, _ => none
theorem ixaX_sound {n es : Nat} {x i : V} {σ : List O} {k : V → Option α} (h : ixaX n es x i σ k = some r) : ixaK n es x i σ (fun v => k v = some r) := by
 unfold ixaX at h
 split at h
 ·split at h
  ·rename_i hc; exact ⟨liveB_live hc.1, hc.2.1, hc.2.2, h⟩
  ·cases h
 ·split at h
  ·rename_i hc; exact ⟨hc.1, hc.2, h⟩
  ·cases h
 ·cases h
def ixvX (n : Nat) (one : Option Nat) (x i : V) (k : V → Option α) : Option α :=
 match x, i with
 | .agg cs, .i _ j => if 0 ≤ j ∧ j < n then
   match one with
   | none => if cs.length = n then k (cs.getD j.toNat .u) else none
   | some s => if cs.length = n * s then fL ((cs.drop (j.toNat * s)).take s) fun l => k (.agg l) else none
  else none
 | _, _ => none
theorem ixvX_sound {n : Nat} {one : Option Nat} {x i : V} {k : V → Option α} (h : ixvX n one x i k = some r) : ixvK n one x i (fun v => k v = some r) := by
 unfold ixvX at h
 split at h
 ·split at h
  ·rename_i hc
   refine ⟨hc.1, hc.2, ?_⟩
   cases one with
   | none =>
    simp only at h ⊢
    split at h
    ·rename_i hl; exact ⟨hl, h⟩
    ·cases h
   | some s =>
    simp only [fL_eq] at h ⊢
    split at h
    ·rename_i hl; exact ⟨hl, h⟩
    ·cases h
  ·cases h
 ·cases h
def ixsX (es : Nat) (x i : V) (σ : List O) (k : V → Option α) : Option α :=
 match x, i with
 | .s id ver off len es', .i _ j => if es = es' ∧ liveB σ id ver = true ∧ 0 ≤ j ∧ j < len then k (.p id ver (off + j.toNat * es)) else none
 | .ss cells len _, .i _ j => if 0 ≤ j ∧ j < len then k (.sp cells (j.toNat * es)) else none
 | _, _ => none
theorem ixsX_sound {es : Nat} {x i : V} {σ : List O} {k : V → Option α} (h : ixsX es x i σ k = some r) : ixsK es x i σ (fun v => k v = some r) := by
 unfold ixsX at h
 split at h
 ·split at h
  ·rename_i hc; exact ⟨hc.1, liveB_live hc.2.1, hc.2.2.1, hc.2.2.2, h⟩
  ·cases h
 ·split at h
  ·rename_i hc; exact ⟨hc.1, hc.2, h⟩
  ·cases h
 ·cases h
def rowX (es : Nat) (y : V) (σ : List O) (k : List V → Nat → Option α) : Option α :=
 match y with
 | .ss ys m _ => if ys.length = m * es then k ys m else none
 | .s id ver off m es' =>
  match σ[id]? with
  | some (.row v cells) => if v = ver ∧ es = es' ∧ off + m * es ≤ cells.length then fSp ((cells.drop off).take (m * es)) fun l => k l m else none
  | _ => none
 | _ => none
theorem rowX_sound {es : Nat} {y : V} {σ : List O} {k : List V → Nat → Option α} (h : rowX es y σ k = some r) : rowOf es y σ (fun l m => k l m = some r) := by
 unfold rowX at h
 split at h
 ·split at h
  ·rename_i hc; exact ⟨hc, h⟩
  ·cases h
 ·split at h
  ·rename_i h1
   split at h
   ·rename_i hc; simp only [rowOf, h1]; exact ⟨hc.1, hc.2.1, hc.2.2, by simpa using h⟩
   ·cases h
  ·cases h
 ·cases h
theorem rowOf_mono {es : Nat} {y : V} {σ : List O} {K K' : List V → Nat → Prop} (h : rowOf es y σ K) (hk : ∀ l m, K l m → K' l m) : rowOf es y σ K' := by
 cases y with
 | ss ys m full => exact ⟨h.1, hk _ _ h.2⟩
 | s id ver off m es' =>
  simp only [rowOf] at h ⊢
  cases ho : σ[id]? with
  | none => rw [ho] at h; exact h
  | some o =>
   rw [ho] at h
   cases o with
   | row v cells => exact ⟨h.1, h.2.1, h.2.2.1, hk _ _ h.2.2.2⟩
   | _ => exact h
 | _ => exact h
def appX (es bytes : Nat) (x y : V) (σ : List O) (k : Kx α) : Option α :=
 rowX es y σ fun ys m =>
  match x with
  | .ss xs n true => if xs.length = n * es ∧ (n + m) * bytes ≤ 140737488355328 then
    (if m = 0 then k (.ss xs n true) σ else fSp (xs ++ ys) fun cs => fSp (σ ++ [.row 0 cs]) fun σ' => k (.s σ.length 0 0 (n + m) es) σ') else none
  | .s id ver off n es' =>
   match σ[id]? with
   | some (.row v cells) => if v = ver ∧ es = es' ∧ off + n * es = cells.length ∧ (n + m) * bytes ≤ 140737488355328 then
     (if m = 0 then k (.s id ver off n es) σ else fSp (cells.drop off ++ ys) fun cs => fSp (σ.set id (.row (ver + 1) cs)) fun σ' => k (.s id (ver + 1) 0 (n + m) es) σ') else none
   | _ => none
  | _ => none
theorem appX_sound {es bytes : Nat} {x y : V} {σ : List O} {k : Kx α} (h : appX es bytes x y σ k = some r) : appK es bytes x y σ (fun v σ => k v σ = some r) := by
 refine rowOf_mono (rowX_sound h) (fun ys m h => ?_)
 split at h
 ·split at h
  ·rename_i hc
   refine ⟨hc.1, hc.2, ?_⟩
   split at h
   ·rename_i h0; rw [if_pos h0]; exact h
   ·rename_i h0; rw [if_neg h0]; simpa using h
  ·cases h
 ·split at h
  ·rename_i h1
   split at h
   ·rename_i hc
    simp only [h1]
    refine ⟨hc.1, hc.2.1, hc.2.2.1, hc.2.2.2, ?_⟩
    split at h
    ·rename_i h0; rw [if_pos h0]; exact h
    ·rename_i h0; rw [if_neg h0]; simpa using h
   ·cases h
  ·cases h
 ·cases h
def lenX (x : V) (σ : List O) (k : V → Option α) : Option α :=
 match x with
 | .s id ver _ len _ => if liveB σ id ver = true then k (.i .i64 len) else none
 | .ss _ len _ => k (.i .i64 len)
 | _ => none
theorem lenX_sound {x : V} {σ : List O} {k : V → Option α} (h : lenX x σ k = some r) : lenK x σ (fun v => k v = some r) := by
 unfold lenX at h
 split at h
 ·split at h
  ·rename_i hc; exact ⟨liveB_live hc, h⟩
  ·cases h
 ·exact h
 ·cases h
def lenmX (x : V) (σ : List O) (k : V → Option α) : Option α :=
 match x with
 | .sm l => k (.i .i64 l.length)
 | .m id => match σ[id]? with
  | some (.map es _) => k (.i .i64 es.length)
  | _ => none
 | .nm => k (.i .i64 0)
 | _ => none
theorem lenmX_sound {x : V} {σ : List O} {k : V → Option α} (h : lenmX x σ k = some r) : lenmK x σ (fun v => k v = some r) := by
 unfold lenmX at h
 split at h
 ·exact h
 ·split at h
  ·rename_i h1; simp only [lenmK, h1]; exact h
  ·cases h
 ·exact h
 ·cases h
def lensX (x : V) (k : V → Option α) : Option α :=
 match x with
 | .str s => k (.i .i64 s.size)
 | _ => none
theorem lensX_sound {x : V} {k : V → Option α} (h : lensX x k = some r) : lensK x (fun v => k v = some r) := by
 unfold lensX at h
 split at h
 ·exact h
 ·cases h
def clrX (es : Nat) (zs : List V) (x : V) (σ : List O) (k : Kx α) : Option α :=
 match x with
 | .s id ver off n es' =>
  match σ[id]? with
  | some (.row v cells) => if v = ver ∧ es = es' ∧ off + n * es ≤ cells.length then fSp (splice cells off (rep n zs)) fun cs => fSp (σ.set id (.row v cs)) fun σ => k .u σ else none
  | _ => none
 | .ss [] 0 _ => k .u σ
 | _ => none
theorem clrX_sound {es : Nat} {zs : List V} {x : V} {σ : List O} {k : Kx α} (h : clrX es zs x σ k = some r) : clrK es zs x σ (fun v σ => k v σ = some r) := by
 unfold clrX at h
 split at h
 ·split at h
  ·rename_i h1
   split at h
   ·rename_i hc; simp only [clrK, h1]; exact ⟨hc.1, hc.2.1, hc.2.2, by simpa using h⟩
   ·cases h
  ·cases h
 ·exact h
 ·cases h
def cpyX (es : Nat) (d s : V) (σ : List O) (k : Kx α) : Option α :=
 rowX es s σ fun ys m =>
  match d with
  | .s id ver off n es' =>
   match σ[id]? with
   | some (.row v cells) => if v = ver ∧ es = es' ∧ off + n * es ≤ cells.length then fSp (splice cells off (ys.take (min m n * es))) fun cs => fSp (σ.set id (.row v cs)) fun σ => k (.i .i64 (min m n : Nat)) σ else none
   | _ => none
  | .ss [] 0 _ => k (.i .i64 0) σ
  | _ => none
theorem cpyX_sound {es : Nat} {d s : V} {σ : List O} {k : Kx α} (h : cpyX es d s σ k = some r) : cpyK es d s σ (fun v σ => k v σ = some r) := by
 refine rowOf_mono (rowX_sound h) (fun ys m h => ?_)
 split at h
 ·split at h
  ·rename_i h1
   split at h
   ·rename_i hc; simp only [h1]; exact ⟨hc.1, hc.2.1, hc.2.2, by simpa using h⟩
   ·cases h
  ·cases h
 ·exact h
 ·cases h
def mxX (f : Int → Int → Int) : List V → (V → Option α) → Option α
 | .i q a :: r, k => match intsOf r with
  | some l => k (.i q (l.foldl f a))
  | none => none
 | _, _ => none
theorem mxX_sound {f : Int → Int → Int} {l : List V} {k : V → Option α} (h : mxX f l k = some r) : mxK f l (fun v => k v = some r) := by
 unfold mxX at h
 split at h
 ·split at h
  ·rename_i h1; simp only [mxK, h1]; exact h
  ·cases h
 ·cases h
def extX (i : Nat) (x : V) (k : V → Option α) : Option α :=
 match x with
 | .tup vs => match vs[i]? with | some v => k v | none => none
 | _ => none
theorem extX_sound {i : Nat} {x : V} {k : V → Option α} (h : extX i x k = some r) : extK i x (fun v => k v = some r) := by
 unfold extX at h
 split at h
 ·split at h
  ·rename_i h2
   obtain ⟨h3, h4⟩ := getD_of h2
   exact ⟨h3, by rw [h4]; exact h⟩
  ·cases h
 ·cases h
def keysB (q : IntKind) (n : Nat) : List (V × V) → Bool
 | [] => true
 | e :: r => (keyOf q n e.1).isSome && keysB q n r
theorem keysB_ok {q : IntKind} {n : Nat} : ∀ {l : List (V × V)}, keysB q n l = true → keysOK q n l
 | [], _ => by intro e he; cases he
 | e :: l, h => by
  simp only [keysB, Bool.and_eq_true] at h
  intro e' he
  rcases List.mem_cons.1 he with rfl | he
  ·exact Option.isSome_iff_exists.1 h.1
  ·exact keysB_ok h.2 e' he
def lkfX (q : IntKind) (n : Nat) (zs : V) (ok : Bool) (ks : List Int) (l : List (V × V)) (k : V → Option α) : Option α :=
 if keysB q n l = true then
  match findM q n ks l with
  | some v => k (if ok then .tup [v, .b true] else v)
  | none => k (if ok then .tup [zs, .b false] else zs)
 else none
theorem lkfX_sound {q n zs ok ks l} {k : V → Option α} (h : lkfX q n zs ok ks l k = some r) : lkpF q n zs ok ks l (fun v => k v = some r) := by
 unfold lkfX at h
 split at h
 ·rename_i hc
  refine ⟨keysB_ok hc, ?_⟩
  split at h
  ·rename_i h1; simp only [h1]; exact h
  ·rename_i h1; simp only [h1]; exact h
 ·cases h
def lkpX (q : IntKind) (n : Nat) (zs : V) (ok : Bool) (x k : V) (σ : List O) (c : V → Option α) : Option α :=
 match keyOf q n k with
 | some ks =>
  match x with
  | .sm l => lkfX q n zs ok ks l c
  | .m id => match σ[id]? with
   | some (.map es _) => lkfX q n zs ok ks (es.map (·.2)) c
   | _ => none
  | .nm => c (if ok then .tup [zs, .b false] else zs)
  | _ => none
 | none => none
theorem lkpX_sound {q n zs ok} {x k : V} {σ : List O} {c : V → Option α} (h : lkpX q n zs ok x k σ c = some r) : lkpK q n zs ok x k σ (fun v => c v = some r) := by
 unfold lkpX at h
 split at h
 ·rename_i h1
  simp only [lkpK, h1]
  split at h
  ·exact lkfX_sound h
  ·split at h
   ·rename_i h2; simp only [h2]; exact lkfX_sound h
   ·cases h
  ·exact h
  ·cases h
 ·cases h
def msetX (q : IntKind) (n : Nat) (x k v : V) (σ : List O) (c : Kx α) : Option α :=
 match keyOf q n k, x with
 | some ks, .m id =>
  match σ[id]? with
  | some (.map es clock) => if keysB q n (es.map (·.2)) = true then
   (match idxM q n ks (es.map (·.2)) with
   | some i => fSp (es.modify i fun e => (e.1, k, v)) fun es => fSp (σ.set id (.map es clock)) fun σ => c .u σ
   | none => fSp (es ++ [(clock, k, v)]) fun es => fN (clock + 1) fun cl => fSp (σ.set id (.map es cl)) fun σ => c .u σ) else none
  | _ => none
 | _, _ => none
theorem msetX_sound {q n} {x k v : V} {σ : List O} {c : Kx α} (h : msetX q n x k v σ c = some r) : msetK q n x k v σ (fun v σ => c v σ = some r) := by
 unfold msetX at h
 split at h
 ·rename_i h0
  split at h
  ·rename_i h1
   split at h
   ·rename_i hc
    simp only [msetK, h0, h1]
    refine ⟨keysB_ok hc, ?_⟩
    split at h
    ·rename_i h2; simp only [h2]; simpa using h
    ·rename_i h2; simp only [h2]; simpa using h
   ·cases h
  ·cases h
 ·cases h
def sidxX (x i : V) (c : V → Option α) : Option α :=
 match x, i with
 | .str s, .i _ j => if 0 ≤ j then (match s[j.toNat]? with
  | some b => c (.i .u8 b.toNat)
  | none => none) else none
 | _, _ => none
theorem sidxX_sound {x i : V} {c : V → Option α} (h : sidxX x i c = some r) : sidxK x i (fun v => c v = some r) := by
 unfold sidxX at h
 split at h
 ·split at h
  ·rename_i hc
   split at h
   ·rename_i h1
    simp only [sidxK, h1]
    exact ⟨hc, h⟩
   ·cases h
  ·cases h
 ·cases h
def snilX (neq : Bool) (x : V) (c : V → Option α) : Option α :=
 match x with
 | .ss _ n _ => if n ≠ 0 then c (.b neq) else none
 | _ => none
theorem snilX_sound {neq} {x : V} {c : V → Option α} (h : snilX neq x c = some r) : snilK neq x (fun v => c v = some r) := by
 unfold snilX at h
 split at h
 ·split at h
  ·rename_i hc; exact ⟨hc, h⟩
  ·cases h
 ·cases h
def mentX (q : IntKind) (n : Nat) (zs : V) (x k : V) (σ : List O) (c : Kx α) : Option α :=
 match keyOf q n k, x with
 | some ks, .m id =>
  match σ[id]? with
  | some (.map es clock) => if keysB q n (es.map (·.2)) = true then
   (match idxM q n ks (es.map (·.2)) with
   | some i => (match es[i]? with
    | some e => c (.tup [e.2.2, .i .i64 (e.1 : Nat)]) σ
    | none => none)
   | none => fSp (es ++ [(clock, k, zs)]) fun es => fN (clock + 1) fun cl => fSp (σ.set id (.map es cl)) fun σ => c (.tup [zs, .i .i64 (clock : Nat)]) σ) else none
  | _ => none
 | _, _ => none
theorem mentX_sound {q n zs} {x k : V} {σ : List O} {c : Kx α} (h : mentX q n zs x k σ c = some r) : mentK q n zs x k σ (fun v σ => c v σ = some r) := by
 unfold mentX at h
 split at h
 ·rename_i h0
  split at h
  ·rename_i h1
   split at h
   ·rename_i hc
    simp only [mentK, h0, h1]
    refine ⟨keysB_ok hc, ?_⟩
    split at h
    ·rename_i h2
     simp only [h2]
     split at h
     ·rename_i h3; simp only [h3]; exact h
     ·cases h
    ·rename_i h2; simp only [h2]; simpa using h
   ·cases h
  ·cases h
 ·cases h
def mestX (x s v : V) (σ : List O) (c : Kx α) : Option α :=
 match x, s with
 | .m id, .i .i64 b =>
  match σ[id]? with
  | some (.map es clock) =>
   (match es.findIdx? fun e => ((e.1 : Nat) : Int) == b with
   | some i => fSp (es.modify i fun e => (e.1, e.2.1, v)) fun es => fSp (σ.set id (.map es clock)) fun σ => c .u σ
   | none => none)
  | _ => none
 | _, _ => none
theorem mestX_sound {x s v : V} {σ : List O} {c : Kx α} (h : mestX x s v σ c = some r) : mestK x s v σ (fun v σ => c v σ = some r) := by
 unfold mestX at h
 split at h
 ·split at h
  ·rename_i h1
   split at h
   ·rename_i h2
    simp only [mestK, h1, h2]
    simpa using h
   ·cases h
  ·cases h
 ·cases h
def mdelX (q : IntKind) (n : Nat) (x k : V) (σ : List O) (c : Kx α) : Option α :=
 match keyOf q n k, x with
 | some ks, .m id =>
  match σ[id]? with
  | some (.map es clock) => if keysB q n (es.map (·.2)) = true then
   (match idxM q n ks (es.map (·.2)) with
   | some i => fSp (es.eraseIdx i) fun es => fSp (σ.set id (.map es clock)) fun σ => c .u σ
   | none => c .u (σ.set id (.map es clock))) else none
  | _ => none
 | _, _ => none
theorem mdelX_sound {q n} {x k : V} {σ : List O} {c : Kx α} (h : mdelX q n x k σ c = some r) : mdelK q n x k σ (fun v σ => c v σ = some r) := by
 unfold mdelX at h
 split at h
 ·rename_i h0
  split at h
  ·rename_i h1
   split at h
   ·rename_i hc
    simp only [mdelK, h0, h1]
    refine ⟨keysB_ok hc, ?_⟩
    split at h
    ·rename_i h2; simp only [h2]; simpa using h
    ·rename_i h2; simp only [h2]; simpa using h
   ·cases h
  ·cases h
 ·cases h
def evX (g : Od → V) (σ : List O) (k : Kx α) : IOp → Option α
 | .mov x => k (g x) σ
 | .pick c a b => match g c with
  | .b t => k (if t then g a else g b) σ
  | _ => none
 | .alloc zs => fSp (σ ++ [.row 0 zs]) fun σ' => k (.p σ.length 0 0) σ'
 | .box x => match cellsOf (g x) with
  | some cs => fL cs fun cs => fSp (σ ++ [.row 0 cs]) fun σ' => k (.p σ.length 0 0) σ'
  | none => none
 | .build zs ps => match fillV zs (ps.map fun p => (p.1, p.2.1, g p.2.2)) with
  | some cs => fL cs fun cs => k (.agg cs) σ
  | none => none
 | .bsl frz es n zs ps => match fillV zs (ps.map fun p => (p.1, p.2.1, g p.2.2)) with
  | some cs => if frz then fL cs fun cs => k (.ss cs n true) σ else fL cs fun cs => fSp (σ ++ [.row 0 cs]) fun σ' => k (.s σ.length 0 0 n es) σ'
  | none => none
 | .load1 a => ld1X (g a) σ fun v => k v σ
 | .loadA n a => ldAX n (g a) σ fun v => k v σ
 | .store1 a x => st1X (g a) (g x) σ k
 | .storeA n a x => stAX n (g a) (g x) σ k
 | .nilc x => nilX (g x) σ fun v => k v σ
 | .bin op x y => binX op (g x) (g y) fun v => k v σ
 | .eqv q n neq x y => eqvX q n neq (g x) (g y) fun v => k v σ
 | .eqb neq x y => eqbX neq (g x) (g y) fun v => k v σ
 | .not x => match g x with
  | .b t => k (.b (!t)) σ
  | _ => none
 | .neg x => match g x with
  | .i q n => k (.i q (q.wrap (0 - n))) σ
  | _ => none
 | .com x => match g x with
  | .i q n => k (.i q (bitop .xor q (if q.signed then -1 else q.max) n)) σ
  | _ => none
 | .conv q x => match g x with
  | .i _ n => k (.i q (q.wrap n)) σ
  | _ => none
 | .mkf fn first cap => fL (first.map g) fun a => fL (cap.map g) fun b => k (.f fn a b) σ
 | .mkmap => fSp (σ ++ [.map [] 0]) fun σ' => k (.m σ.length) σ'
 | .mksl es bytes zs l c => match g l, g c with
  | .i _ n, .i _ n' => if n = n' ∧ 0 ≤ n ∧ n ≤ 281474976710656 ∧ bytes * n ≤ 281474976710656 then fSp (rep n.toNat zs) fun cs => fSp (σ ++ [.row 0 cs]) fun σ' => k (.s σ.length 0 0 n.toNat es) σ' else none
  | _, _ => none
 | .slc es x lo hi mx => slcX es (g x) (lo.map g) (hi.map g) (mx.map g) σ fun v => k v σ
 | .sla n es x => slaX n es (g x) σ fun v => k v σ
 | .fad o x => fadX o (g x) σ fun v => k v σ
 | .fld1 off x => match g x with
  | .agg cs => (match cs[off]? with | some v => k v σ | none => none)
  | _ => none
 | .fldA off size x => match g x with
  | .agg cs => if off + size ≤ cs.length then fL ((cs.drop off).take size) fun l => k (.agg l) σ else none
  | _ => none
 | .ixa n es x i => ixaX n es (g x) (g i) σ fun v => k v σ
 | .ixs es x i => ixsX es (g x) (g i) σ fun v => k v σ
 | .ixv n one x i => ixvX n one (g x) (g i) fun v => k v σ
 | .ext i x => extX i (g x) fun v => k v σ
 | .len x => lenX (g x) σ fun v => k v σ
 | .lenm x => lenmX (g x) σ fun v => k v σ
 | .lens x => lensX (g x) fun v => k v σ
 | .app es bytes x y => appX es bytes (g x) (g y) σ k
 | .clr es zs x => clrX es zs (g x) σ k
 | .cpy es d s => cpyX es (g d) (g s) σ k
 | .mx xs => mxX max (xs.map g) fun v => k v σ
 | .mn xs => mxX min (xs.map g) fun v => k v σ
 | .lkp q n zs ok x y => lkpX q n zs ok (g x) (g y) σ fun v => k v σ
 | .mset q n x y v => msetX q n (g x) (g y) (g v) σ k
 | .sidx x i => sidxX (g x) (g i) fun v => k v σ
 | .snil neq x => snilX neq (g x) fun v => k v σ
 | .ment q n zs x y => mentX q n zs (g x) (g y) σ k
 | .mest x s v => mestX (g x) (g s) (g v) σ k
 | .mdel q n x y => mdelX q n (g x) (g y) σ k
 | _ => none
theorem evX_sound {g : Od → V} {σ : List O} {k : Kx α} {io : IOp} (h : evX g σ k io = some r) : evK g σ (fun v σ => k v σ = some r) io := by
 cases io with
 | mov x => exact h
 | pick c a b =>
  simp only [evX] at h
  split at h
  ·rename_i h1; simp only [evK, h1]; exact h
  ·cases h
 | alloc zs => simpa [evX, evK] using h
 | box x =>
  simp only [evX] at h
  split at h
  ·rename_i h1; simp only [evK, h1]; simpa using h
  ·cases h
 | build zs ps =>
  simp only [evX] at h
  split at h
  ·rename_i h1; simp only [evK, h1]; simpa using h
  ·cases h
 | bsl frz es n zs ps =>
  simp only [evX] at h
  split at h
  ·rename_i h1; simp only [evK, h1]
   cases frz <;> simpa using h
  ·cases h
 | load1 a => simp only [evX] at h; exact ld1X_sound h
 | loadA n a => simp only [evX] at h; exact ldAX_sound h
 | store1 a x => simp only [evX] at h; exact st1X_sound h
 | storeA n a x => simp only [evX] at h; exact stAX_sound h
 | nilc x => simp only [evX] at h; exact nilX_sound h
 | bin op x y => simp only [evX] at h; exact binX_sound h
 | eqv q n neq x y => simp only [evX] at h; exact eqvX_sound h
 | eqb neq x y => simp only [evX] at h; exact eqbX_sound h
 | not x =>
  simp only [evX] at h
  split at h
  ·rename_i h1; simp only [evK, h1]; exact h
  ·cases h
 | com x =>
  simp only [evX] at h
  split at h
  ·rename_i h1; simp only [evK, h1]; exact h
  ·cases h
 | neg x =>
  simp only [evX] at h
  split at h
  ·rename_i h1; simp only [evK, h1]; exact h
  ·cases h
 | conv q x =>
  simp only [evX] at h
  split at h
  ·rename_i h1; simp only [evK, h1]; exact h
  ·cases h
 | mkf fn first cap => simpa [evX, evK] using h
 | mkmap => simpa [evX, evK] using h
 | mksl es bytes zs l c =>
  simp only [evX] at h
  split at h
  ·rename_i h1 h2
   split at h
   ·rename_i hc
    simp only [evK, h1, h2]
    exact ⟨hc.1, hc.2.1, hc.2.2.1, hc.2.2.2, by simpa using h⟩
   ·cases h
  ·cases h
 | slc es x lo hi mx => simp only [evX] at h; exact slcX_sound h
 | sla n es x => simp only [evX] at h; exact slaX_sound h
 | fad o x => simp only [evX] at h; exact fadX_sound h
 | fld1 off x =>
  simp only [evX] at h
  split at h
  ·rename_i h1
   split at h
   ·rename_i h2
    obtain ⟨h3, h4⟩ := getD_of h2
    simp only [evK, h1]
    exact ⟨h3, by rw [h4]; exact h⟩
   ·cases h
  ·cases h
 | fldA off size x =>
  simp only [evX] at h
  split at h
  ·rename_i h1
   split at h
   ·rename_i hc; simp only [evK, h1]; exact ⟨hc, by simpa using h⟩
   ·cases h
  ·cases h
 | ixa n es x i => simp only [evX] at h; exact ixaX_sound h
 | ixs es x i => simp only [evX] at h; exact ixsX_sound h
 | ixv n one x i => simp only [evX] at h; exact ixvX_sound h
 | ext i x => simp only [evX] at h; exact extX_sound h
 | len x => simp only [evX] at h; exact lenX_sound h
 | lenm x => simp only [evX] at h; exact lenmX_sound h
 | lens x => simp only [evX] at h; exact lensX_sound h
 | app es bytes x y => simp only [evX] at h; exact appX_sound h
 | clr es zs x => simp only [evX] at h; exact clrX_sound h
 | cpy es d s => simp only [evX] at h; exact cpyX_sound h
 | mx xs => simp only [evX] at h; exact mxX_sound h
 | mn xs => simp only [evX] at h; exact mxX_sound h
 | lkp q n zs ok x y => simp only [evX] at h; exact lkpX_sound h
 | mset q n x y v => simp only [evX] at h; exact msetX_sound h
 | sidx x i => simp only [evX] at h; exact sidxX_sound h
 | snil neq x => simp only [evX] at h; exact snilX_sound h
 | ment q n zs x y => simp only [evX] at h; exact mentX_sound h
 | mest x s v => simp only [evX] at h; exact mestX_sound h
 | mdel q n x y => simp only [evX] at h; exact mdelX_sound h
 | _ => simp [evX] at h
end
theorem evK_mono {g : Od → V} {σ : List O} {K K' : V → List O → Prop} (hk : ∀ v σ, K v σ → K' v σ) {io : IOp} (h : evK g σ K io) : evK g σ K' io := by
 cases io <;> simp only [evK, ld1K, ldAK, st1K, stAK, nilcK, binK, eqvK, eqbK, slcK, slcB, slaK, fadK, ixaK, ixvK, ixsK, lenK, lenmK, lensK, clrK, extK, lkpK, lkpF, msetK, mdelK, rngK, nxtK, entK, sidxK, snilK, mentK, mestK] at h ⊢
 case mov => exact hk _ _ h
 case nxt =>
  split at h
  ·split at h
   ·split at h
    ·rename_i h1 h2
     try simp only [h1, h2]
     obtain ⟨a1, a2, a3, a4, a5, a6, a7⟩ := h
     exact ⟨a1, a2, a3, a4, a5, fun a => hk _ _ (a6 a), fun e he hs => hk _ _ (a7 e he hs)⟩
    ·exact h.elim
   ·exact h.elim
  ·exact h.elim
 case app =>
  refine rowOf_mono h (fun ys m h => ?_)
  split at h
  ·refine ⟨h.1, h.2.1, ?_⟩
   have h := h.2.2
   split at h
   ·rw [if_pos (by assumption)]; exact hk _ _ h
   ·rw [if_neg (by assumption)]; exact hk _ _ h
  ·split at h
   ·rename_i h1
    try simp only [h1]
    refine ⟨h.1, h.2.1, h.2.2.1, h.2.2.2.1, ?_⟩
    have h := h.2.2.2.2
    split at h
    ·rw [if_pos (by assumption)]; exact hk _ _ h
    ·rw [if_neg (by assumption)]; exact hk _ _ h
   ·exact h.elim
  ·exact h.elim
 case cpy =>
  refine rowOf_mono h (fun ys m h => ?_)
  split at h
  ·split at h
   ·rename_i h1
    try simp only [h1]
    exact ⟨h.1, h.2.1, h.2.2.1, hk _ _ h.2.2.2⟩
   ·exact h.elim
  ·exact hk _ _ h
  ·exact h.elim
 case pick => split at h <;> simp_all
 case alloc => exact hk _ _ h
 case box => split at h <;> simp_all
 case build => split at h <;> simp_all
 case bsl frz _ _ _ _ => cases frz <;> (split at h <;> first | (exact h.elim) | (simp_all))
 case mkf => exact hk _ _ h
 case mkmap => exact hk _ _ h
 case mx xs => cases hx : xs.map g with
  | nil => rw [hx] at h; exact h
  | cons a r =>
   rw [hx] at h
   cases a <;> simp only [mxK] at h ⊢
   split at h <;> simp_all
 case mn xs => cases hx : xs.map g with
  | nil => rw [hx] at h; exact h
  | cons a r =>
   rw [hx] at h
   cases a <;> simp only [mxK] at h ⊢
   split at h <;> simp_all
 all_goals (repeat' split at h)
 all_goals first | exact h.elim | skip
 all_goals (try simp_all)
 all_goals (repeat' split)
 all_goals (try simp_all)
 all_goals (try (obtain ⟨rfl, h⟩ := h; simp_all; done))
 all_goals (try (obtain ⟨rfl, rfl, h⟩ := h; simp_all; done))
end Go.Ab
end
section
namespace Go.Ab
open Go
abbrev Cl := FuncId → List V → List O → Option (V × List O)
abbrev Oi := FuncId → List V → List V → List O → Option (List (List V) × (List O → Bool))
mutual
def eqV : V → V → Bool
 | .u, .u => true
 | .b x, .b y => x == y
 | .i k n, .i k' n' => decide (k = k') && decide (n = n')
 | .np, .np => true
 | .p a b c, .p a' b' c' => a == a' && b == b' && c == c'
 | .s a b c d e, .s a' b' c' d' e' => a == a' && b == b' && c == c' && d == d' && e == e'
 | .ss cs n f, .ss cs' n' f' => eqL cs cs' && n == n' && f == f'
 | .sp cs n, .sp cs' n' => eqL cs cs' && n == n'
 | .nm, .nm => true
 | .m a, .m a' => a == a'
 | .nf, .nf => true
 | .agg cs, .agg cs' => eqL cs cs'
 | .tup cs, .tup cs' => eqL cs cs'
 | _, _ => false
def eqL : List V → List V → Bool
 | [], [] => true
 | x :: r, y :: s => eqV x y && eqL r s
 | _, _ => false
end
mutual
theorem eqV_ok : ∀ {x y : V}, eqV x y = true → x = y
 | .u, y, h => by cases y <;> simp_all [eqV]
 | .b x, y, h => by cases y <;> simp_all [eqV]
 | .i k n, y, h => by cases y <;> simp_all [eqV]
 | .np, y, h => by cases y <;> simp_all [eqV]
 | .p a b c, y, h => by cases y <;> simp_all [eqV]
 | .s a b c d e, y, h => by cases y <;> simp_all [eqV]
 | .ss cs n f, y, h => by
  cases y <;> first | (simp [eqV] at h; done) | skip
  simp only [eqV, Bool.and_eq_true, beq_iff_eq] at h
  rw [eqL_ok h.1.1, h.1.2, h.2]
 | .sp cs n, y, h => by
  cases y <;> first | (simp [eqV] at h; done) | skip
  simp only [eqV, Bool.and_eq_true, beq_iff_eq] at h
  rw [eqL_ok h.1, h.2]
 | .nm, y, h => by cases y <;> simp_all [eqV]
 | .m a, y, h => by cases y <;> simp_all [eqV]
 | .nf, y, h => by cases y <;> simp_all [eqV]
 | .agg cs, y, h => by
  cases y <;> first | (simp [eqV] at h; done) | skip
  simp only [eqV] at h
  rw [eqL_ok h]
 | .tup cs, y, h => by
  cases y <;> first | (simp [eqV] at h; done) | skip
  simp only [eqV] at h
  rw [eqL_ok h]
 | .str s, y, h => by simp [eqV] at h
 | .sm s, y, h => by simp [eqV] at h
 | .f a b c, y, h => by simp [eqV] at h
theorem eqL_ok : ∀ {x y : List V}, eqL x y = true → x = y
 | [], y, h => by cases y <;> simp_all [eqL]
 | x :: r, y, h => by
  cases y <;> first | (simp [eqL] at h; done) | skip
  simp only [eqL, Bool.and_eq_true] at h
  rw [eqV_ok h.1, eqL_ok h.2]
end
def gdX (g : Option (Nat × Bool)) (env : Env) (σ : List O) (run : Option (V × List O)) : Option (V × List O) :=
 match g with
 | none => run
 | some (t, want) => match get env t with
  | .b b => if b = want then run else some (.tup [], σ)
  | .tup [] => some (.tup [], σ)
  | _ => none
def valS (call : Cl) (s : IS) (env : Env) (σ : List O) : Option (V × List O) :=
 match s with
 | .op _ g io => gdX g env σ (evX (Od.ev (get env)) σ (fun v σ' => fV v fun v => some (v, σ')) io)
 | .call _ g f args => gdX g env σ (fL (args.map (Od.ev (get env))) fun as => call f as σ)
 | .callv _ g x args => gdX g env σ (match x.ev (get env) with
  | .f (.func f) first cap => fL (first ++ args.map (Od.ev (get env)) ++ cap) fun as => call f as σ
  | _ => none)
 | .cally _ _ _ _ => none
 | .callr _ g f args => gdX g env σ (fL (args.map (Od.ev (get env))) fun as => call f as σ)
def ClOK (P : Program) (call : Cl) : Prop := ∀ f args σ v σ', call f args σ = some (v, σ') → FSpec P f args σ v σ'
def ClQuiet (call : Cl) : Prop := ∀ f args σ v σ', call f args σ = some (v, σ') → σ' = σ
section
variable {P : Program} {Y : Yield} {It : ItTy} {n0 : Nat} {call : Cl} {oi : Oi}
theorem gdX_sound {g : Option (Nat × Bool)} {md : Md} {env : Env} {σ σ' : List O} {run : Option (V × List O)} {Run : Prop} {dst : Option Nat} {K : Kt} {v : V} (h : gdX g env σ run = some (v, σ'))
  (hr : run = some (v, σ') → Run) (hk : K md (put env dst v) σ') : guarded g md env σ Run dst K := by
 unfold gdX at h
 split at h
 ·exact hr h
 ·split at h
  ·rename_i b hb
   simp only [guarded, hb]
   split at h
   ·rename_i hc; rw [if_pos hc]; exact hr h
   ·rename_i hc; rw [if_neg hc]; cases h; exact hk
  ·rename_i hb
   simp only [guarded, hb]
   cases h; exact hk
  ·cases h
theorem valS_sound (hc : ClOK P call) {s : IS} {md : Md} {env : Env} {σ σ' : List O} {v : V} {K : Kt} (h : valS call s env σ = some (v, σ')) (hk : K md (put env s.dst v) σ') : abS P Y n0 s K md env σ := by
 cases s with
 | op dst g io =>
  refine gdX_sound h (fun h => ?_) hk
  refine evK_mono (fun v1 σ1 h1 => ?_) (evX_sound h)
  simp only [fV_eq, Option.some.injEq, Prod.mk.injEq] at h1
  obtain ⟨rfl, rfl⟩ := h1
  exact hk
 | call dst g f args =>
  refine gdX_sound h (fun h => ?_) hk
  simp only [fL_eq] at h
  exact ⟨v, σ', hc _ _ _ _ _ h, hk⟩
 | callv dst g x args =>
  refine gdX_sound h (fun h => ?_) hk
  split at h
  ·rename_i hx
   simp only [fL_eq] at h
   simp only [callvK, hx]
   exact ⟨v, σ', hc _ _ _ _ _ h, hk⟩
  ·cases h
 | cally dst g f args => cases h
 | callr dst g f args =>
  refine gdX_sound h (fun h => ?_) hk
  simp only [fL_eq] at h
  exact ⟨_, (hc _ _ _ _ _ h).toQ, fun v' σ'' ⟨e1, e2⟩ => by subst e1; subst e2; exact hk⟩
theorem evX_quiet {g : Od → V} {σ σ' : List O} {k : V → Option V} {io : IOp} {v : V} (hl : io.loud = false) (h : evX g σ (fun v σ' => some (v, σ')) io = some (v, σ')) : σ' = σ := by
 have h1 := evX_sound h
 cases io <;> first | (simp [IOp.loud] at hl; done) | skip
 all_goals simp only [evK, ld1K, ldAK, nilcK, binK, eqvK, eqbK, slcK, slcB, slaK, fadK, ixaK, ixvK, ixsK, lenK, lenmK, lensK, extK, lkpK, lkpF, rngK, nxtK, entK] at h1
 case bsl frz _ _ _ _ =>
  simp only [IOp.loud, Bool.not_eq_false'] at hl
  subst hl
  split at h1
  ·simp at h1; exact h1.2.symm
  ·exact h1.elim
 case mx xs =>
  cases hx : xs.map g with
  | nil => rw [hx] at h1; exact h1.elim
  | cons a r =>
   rw [hx] at h1
   cases a <;> simp only [mxK] at h1
   split at h1
   ·simp at h1; exact h1.2.symm
   ·exact h1.elim
 case mn xs =>
  cases hx : xs.map g with
  | nil => rw [hx] at h1; exact h1.elim
  | cons a r =>
   rw [hx] at h1
   cases a <;> simp only [mxK] at h1
   split at h1
   ·simp at h1; exact h1.2.symm
   ·exact h1.elim
 case sidx x i =>
  simp only [sidxK] at h1
  split at h1
  ·obtain ⟨-, h1⟩ := h1
   split at h1
   ·cases h1; rfl
   ·exact h1.elim
  ·exact h1.elim
 case snil neq x =>
  simp only [snilK] at h1
  split at h1
  ·have h1 := h1.2
   cases h1; rfl
  ·exact h1.elim
 all_goals (repeat' split at h1)
 all_goals first | exact h1.elim | skip
 all_goals (try simp only [Option.some.injEq, Prod.mk.injEq] at h1)
 all_goals
  first
  | exact h1.2.symm
  | exact h1.2.2.symm
  | exact h1.2.2.2.symm
  | exact h1.2.2.2.2.symm
  | exact h1.2.2.2.2.2.symm
  | exact h1.2.2.2.2.2.2.symm
  | exact h1.2.2.2.2.2.2.2.symm
  | exact h1.2.2.2.2.2.2.2.2.symm
  | exact h1.2.2.2.2.2.2.2.2.2.symm
  | (have h2 := h1.2; split at h2 <;> (simp only [Option.some.injEq, Prod.mk.injEq] at h2; exact h2.2.symm))
  | (have h2 := h1.2.2; split at h2 <;> (simp only [Option.some.injEq, Prod.mk.injEq] at h2; exact h2.2.2.symm))
  | (simp [evX] at h; done)
  | exact h1.2.2.elim
  | exact h1.2.elim
theorem valS_quiet (hq : ClQuiet call) {s : IS} {env : Env} {σ σ' : List O} {v : V} (h : valS call s env σ = some (v, σ')) (hl : s.loud = false) : σ' = σ := by
 have gd : ∀ {g : Option (Nat × Bool)} {run : Option (V × List O)}, gdX g env σ run = some (v, σ') → (run = some (v, σ') → σ' = σ) → σ' = σ := by
  intro g run h hr
  unfold gdX at h
  split at h
  ·exact hr h
  ·split at h
   ·split at h
    ·exact hr h
    ·cases h; rfl
   ·cases h; rfl
   ·cases h
 cases s with
 | op dst g io =>
  refine gd h (fun h => ?_)
  simp only [fV_eq] at h
  exact evX_quiet (k := some) hl h
 | call dst g f args =>
  refine gd h (fun h => ?_)
  simp only [fL_eq] at h
  exact hq _ _ _ _ _ h
 | callv dst g x args =>
  refine gd h (fun h => ?_)
  split at h
  ·simp only [fL_eq] at h
   exact hq _ _ _ _ _ h
  ·cases h
 | cally dst g f args => cases h
 | callr dst g f args =>
  refine gd h (fun h => ?_)
  simp only [fL_eq] at h
  exact hq _ _ _ _ _ h
def runSs (call : Cl) : List IS → Env → List O → Option (Env × List O)
 | [], env, σ => some (env, σ)
 | s :: r, env, σ => match valS call s env σ with
  | some (v, σ') => fSp (put env s.dst v) fun env => runSs call r env σ'
  | none => none
theorem runSs_sound (hc : ClOK P call) {K : Kt} {md : Md} : ∀ {ss : List IS} {env env' : Env} {σ σ' : List O}, runSs call ss env σ = some (env', σ') → K md env' σ' → abSs P Y n0 ss K md env σ
 | [], env, env', σ, σ', h, hk => by
  simp only [runSs, Option.some.injEq, Prod.mk.injEq] at h
  obtain ⟨rfl, rfl⟩ := h
  exact hk
 | s :: r, env, env', σ, σ', h, hk => by
  simp only [runSs] at h
  split at h
  ·rename_i v σ1 h1
   simp only [fSp_eq] at h
   exact valS_sound hc h1 (runSs_sound hc h hk)
  ·cases h
def rechk (call : Cl) (j : Nat) (σ : List O) : List (IS × Env × V × List Nat) → Bool
 | [] => true
 | (s, env, v, us) :: r => (!us.contains j || (!s.loud && match valS call s env σ with
  | some (v', _) => s.dst.isNone || eqV v' v
  | none => false)) && rechk call j σ r
theorem rechk_sound (hc : ClOK P call) (hq : ClQuiet call) {j : Nat} {σ : List O} {md : Md} : ∀ {pend : List (IS × Env × V × List Nat)}, rechk call j σ pend = true → recheck P Y n0 j pend md σ
 | [], _ => trivial
 | (s, env, v, us) :: r, h => by
  simp only [rechk, Bool.and_eq_true, Bool.or_eq_true, Bool.not_eq_true'] at h
  refine ⟨?_, rechk_sound hc hq h.2⟩
  split
  ·rename_i hu
   rcases h.1 with h1 | ⟨hl, h1⟩
   ·rw [hu] at h1; cases h1
   ·split at h1
    ·rename_i v' σ' hv
     refine valS_sound hc hv ⟨rfl, ?_, valS_quiet hq hv hl⟩
     cases hd : s.dst with
     | none => rfl
     | some d =>
      rw [hd] at h1
      simp only [Option.isNone_some, Bool.or_eq_true] at h1
      rcases h1 with h1 | h1
      ·cases h1
      ·rw [eqV_ok h1]
    ·cases h1
  ·trivial
def valD (full call : Cl) (s : IS) (env : Env) (σ : List O) : Option (V × List O) := match s with
 | .callv dst g x args => valS full (.callv dst g x args) env σ
 | s => valS call s env σ
def runDs (full call : Cl) : List (IS × List Nat) → Nat → List (IS × Env × V × List Nat) → Env → List O → Option (Env × List O)
 | [], _, _, env, σ => some (env, σ)
 | (s, us) :: r, j, pend, env, σ => match valD full call s env σ with
  | some (v, σ') => if rechk call j σ' pend = true then
    fSp (put env s.dst v) fun env' => runDs full call r (j + 1) (match us with | [] => pend | _ :: _ => (s, env, (match s.dst with | some _ => v | none => .u), us) :: pend) env' σ'
   else none
  | none => none
theorem valD_sound {full : Cl} (hf : ClOK P full) (hc : ClOK P call) {s : IS} {env : Env} {σ σ' : List O} {v : V} {K : Kt} {md : Md} (h : valD full call s env σ = some (v, σ')) (hk : K md (put env s.dst v) σ') : abS P Y n0 s K md env σ := by
 cases s with
 | callv dst g x args => exact valS_sound hf h hk
 | op dst g io => exact valS_sound hc h hk
 | call dst g f args => exact valS_sound hc h hk
 | cally dst g f args => exact valS_sound hc h hk
 | callr dst g f args => exact valS_sound hc h hk
theorem valD_quiet {full : Cl} (hq : ClQuiet call) {s : IS} {env : Env} {σ σ' : List O} {v : V} (h : valD full call s env σ = some (v, σ')) (hl : s.loud = false) : σ' = σ := by
 cases s with
 | callv dst g x args => cases hl
 | op dst g io =>
  have h : valS call (.op dst g io) env σ = some (v, σ') := h
  exact valS_quiet hq h hl
 | call dst g f args =>
  have h : valS call (.call dst g f args) env σ = some (v, σ') := h
  exact valS_quiet hq h hl
 | cally dst g f args => cases hl
 | callr dst g f args => cases hl
theorem runDs_sound {full : Cl} (hf : ClOK P full) (hc : ClOK P call) (hq : ClQuiet call) {K : Kt} {md : Md} : ∀ {ss : List (IS × List Nat)} {j : Nat} {pend : List (IS × Env × V × List Nat)} {env env' : Env} {σ σ' : List O}, runDs full call ss j pend env σ = some (env', σ') → K md env' σ' → abDs P Y n0 ss j pend K md env σ
 | [], _, _, env, env', σ, σ', h, hk => by
  simp only [runDs, Option.some.injEq, Prod.mk.injEq] at h
  obtain ⟨rfl, rfl⟩ := h
  exact hk
 | (s, us) :: r, j, pend, env, env', σ, σ', h, hk => by
  simp only [runDs] at h
  split at h
  ·rename_i v σ1 h1
   split at h
   ·rename_i hr
    simp only [fSp_eq] at h
    simp only [abDs]
    refine valD_sound hf hc h1 ⟨rfl, fun hl => valD_quiet hq h1 hl, rechk_sound hc hq hr, ?_⟩
    refine runDs_sound hf hc hq (pend := _) ?_ hk
    rw [← h]
    congr 1
    cases us with
    | nil => rfl
    | cons u us =>
     simp only [List.isEmpty_cons, Bool.false_eq_true, if_false]
     cases hd : s.dst with
     | none => rfl
     | some d => simp only [get_put, if_true]
   ·cases h
  ·cases h
inductive Oc where
 | fall
 | exit (id : Nat)
 | ret
def OcK (E : List (Nat × Kt)) (K Rt : Kt) (md : Md) (env : Env) (σ : List O) : Oc → Prop
 | .fall => K md env σ
 | .exit id => exitK E id md env σ
 | .ret => Rt md env σ
def iterX (live : Option (List Nat)) (f : Env → List O → Option (Oc × Env × List O)) : Nat → Env → List O → Option (Oc × Env × List O)
 | 0, _, _ => none
 | n + 1, env, σ => match f env σ with
  | some (.fall, env', σ') => fSp (keepO env' live) fun env' => iterX live f n env' σ'
  | some (.exit id, env', σ') => if id = 0 ∧ False then none else some (.exit id, env', σ')
  | some (.ret, env', σ') => some (.ret, env', σ')
  | none => none
def roundsX (pre : List O → Bool) (f : List V → List O → Option (Oc × Env × List O)) : List (List V) → List O → Option (Oc × List O)
 | [], σ => if pre σ = true then some (.fall, σ) else none
 | x :: r, σ => if pre σ = true then (match f x σ with
  | some (.fall, _, σ') => roundsX pre f r σ'
  | some (.exit id, _, σ') => some (.exit id, σ')
  | some (.ret, _, σ') => some (.ret, σ')
  | none => none) else none
theorem roundsX_pre {pre : List O → Bool} {f : List V → List O → Option (Oc × Env × List O)} : ∀ {xs : List (List V)} {σ : List O} {r : Oc × List O}, roundsX pre f xs σ = some r → pre σ = true
 | [], σ, r, h => by
  simp only [roundsX] at h
  split at h
  ·assumption
  ·cases h
 | x :: xs, σ, r, h => by
  simp only [roundsX] at h
  split at h
  ·assumption
  ·cases h
def exC (call pc : Cl) (oi : Oi) (n : Nat) : IC → Env → List O → Option (Oc × Env × List O)
 | .skip, env, σ => some (.fall, env, σ)
 | .reg ops live, env, σ => match runSs call ops env σ with
  | some (env', σ') => fSp (keepO env' live) fun env' => some (.fall, env', σ')
  | none => none
 | .drw ops live, env, σ => match runDs call pc ops 0 [] env σ with
  | some (env', σ') => fSp (keepO env' live) fun env' => some (.fall, env', σ')
  | none => none
 | .alt ls live, env, σ => match ls with
  | [ops] => match runDs call pc ops 0 [] env σ with
   | some (env', σ') => fSp (keepO env' live) fun env' => some (.fall, env', σ')
   | none => none
  | _ => none
 | .seq a b, env, σ => match exC call pc oi n a env σ with
  | some (.fall, env', σ') => exC call pc oi n b env' σ'
  | some (.exit id, env', σ') => some (.exit id, env', σ')
  | some (.ret, env', σ') => some (.ret, env', σ')
  | none => none
 | .cond c a b, env, σ => match c.ev (get env) with
  | .b t => if t = true then exC call pc oi n a env σ else exC call pc oi n b env σ
  | _ => none
 | .block id a, env, σ => match exC call pc oi n a env σ with
  | some (.fall, env', σ') => some (.fall, env', σ')
  | some (.exit id', env', σ') => if id = id' then some (.fall, env', σ') else some (.exit id', env', σ')
  | some (.ret, env', σ') => some (.ret, env', σ')
  | none => none
 | .loop live a, env, σ => iterX live (exC call pc oi n a) n (keepO env live) σ
 | .rfn g ps asg body, env, σ => match g.ev (get env) with
  | .f (.func f) first cap => match oi f first cap σ with
   | some (xs, pre) => match roundsX pre (fun x σ => if x.length = ps.length then (match exC call pc oi n asg (puts env ps x) σ with
      | some (.fall, env', σ') => exC call pc oi n body env' σ'
      | _ => none) else none) xs σ with
    | some (oc, σ') => some (oc, env, σ')
    | none => none
   | none => none
  | _ => none
 | .exit id, env, σ => some (.exit id, env, σ)
 | .ret, env, σ => some (.ret, env, σ)
theorem exC_sound (hc : ClOK P call) {pc : Cl} (hpc : ClOK P pc) (hq : ClQuiet pc) (hi : ∀ f a b σ xs pre, oi f a b σ = some (xs, pre) → It f a b xs.length (fun i x _ g => xs[i]? = some x ∧ g = []) (fun σ => pre σ = true)) {n : Nat} : ∀ {ic : IC} {Y : Yield} {n0 : Nat} {K Rt : Kt} {E : List (Nat × Kt)} {md : Md} {env env' : Env} {σ σ' : List O} {oc : Oc},
  exC call pc oi n ic env σ = some (oc, env', σ') → OcK E K Rt md env' σ' oc → ab P Y It n0 ic K E Rt md env σ := by
 intro ic
 induction ic with
 | skip =>
  intro Y n0 K Rt E md env env' σ σ' oc h hk
  simp only [exC, Option.some.injEq, Prod.mk.injEq] at h
  obtain ⟨rfl, rfl, rfl⟩ := h
  exact hk
 | reg ops live =>
  intro Y n0 K Rt E md env env' σ σ' oc h hk
  simp only [exC] at h
  split at h
  ·rename_i e1 σ1 h1
   simp only [fSp_eq, Option.some.injEq, Prod.mk.injEq] at h
   obtain ⟨rfl, rfl, rfl⟩ := h
   exact runSs_sound hc h1 hk
  ·cases h
 | drw ops live =>
  intro Y n0 K Rt E md env env' σ σ' oc h hk
  simp only [exC] at h
  split at h
  ·rename_i e1 σ1 h1
   simp only [fSp_eq, Option.some.injEq, Prod.mk.injEq] at h
   obtain ⟨rfl, rfl, rfl⟩ := h
   exact runDs_sound hc hpc hq h1 hk
  ·cases h
 | alt ls live =>
  intro Y n0 K Rt E md env env' σ σ' oc h hk
  simp only [exC] at h
  split at h
  ·rename_i ops
   split at h
   ·rename_i e1 σ1 h1
    simp only [fSp_eq, Option.some.injEq, Prod.mk.injEq] at h
    obtain ⟨rfl, rfl, rfl⟩ := h
    intro l hl
    rw [List.mem_singleton] at hl
    subst hl
    exact runDs_sound hc hpc hq h1 hk
   ·cases h
  ·cases h
 | seq a b iha ihb =>
  intro Y n0 K Rt E md env env' σ σ' oc h hk
  simp only [exC] at h
  split at h
  ·rename_i e1 σ1 h1
   exact iha (oc := .fall) h1 (ihb h hk)
  ·rename_i id e1 σ1 h1
   simp only [Option.some.injEq, Prod.mk.injEq] at h
   obtain ⟨rfl, rfl, rfl⟩ := h
   exact iha (oc := .exit id) h1 hk
  ·rename_i e1 σ1 h1
   simp only [Option.some.injEq, Prod.mk.injEq] at h
   obtain ⟨rfl, rfl, rfl⟩ := h
   exact iha (oc := .ret) h1 hk
  ·cases h
 | cond c a b iha ihb =>
  intro Y n0 K Rt E md env env' σ σ' oc h hk
  simp only [exC] at h
  split at h
  ·rename_i t ht
   simp only [ab, ht]
   split at h
   ·rename_i hc; rw [if_pos hc]; exact iha h hk
   ·rename_i hc; rw [if_neg hc]; exact ihb h hk
  ·cases h
 | block id a iha =>
  intro Y n0 K Rt E md env env' σ σ' oc h hk
  simp only [exC] at h
  split at h
  ·rename_i e1 σ1 h1
   simp only [Option.some.injEq, Prod.mk.injEq] at h
   obtain ⟨rfl, rfl, rfl⟩ := h
   exact iha (oc := .fall) h1 hk
  ·rename_i id' e1 σ1 h1
   split at h
   ·rename_i he
    simp only [Option.some.injEq, Prod.mk.injEq] at h
    obtain ⟨rfl, rfl, rfl⟩ := h
    exact iha (oc := .exit id') h1 (by simp only [OcK, exitK, if_pos he]; exact hk)
   ·rename_i he
    simp only [Option.some.injEq, Prod.mk.injEq] at h
    obtain ⟨rfl, rfl, rfl⟩ := h
    exact iha (oc := .exit id') h1 (by simp only [OcK, exitK, if_neg he]; exact hk)
  ·rename_i e1 σ1 h1
   simp only [Option.some.injEq, Prod.mk.injEq] at h
   obtain ⟨rfl, rfl, rfl⟩ := h
   exact iha (oc := .ret) h1 hk
  ·cases h
 | loop live a iha =>
  intro Y n0 K Rt E md env env' σ σ' oc h hk
  simp only [exC] at h
  refine ⟨fun m e s => iterX live (exC call pc oi n a) m e s = some (oc, env', σ'), .inl ⟨n, h⟩, ?_⟩
  intro m e s hm
  cases m with
  | zero => cases hm
  | succ m =>
   simp only [iterX] at hm
   split at hm
   ·rename_i e1 σ1 h1
    simp only [fSp_eq] at hm
    exact iha (oc := .fall) h1 ⟨rfl, m, Nat.lt_succ_self m, .inl hm⟩
   ·rename_i id e1 σ1 h1
    simp only [and_false, if_false, Option.some.injEq, Prod.mk.injEq] at hm
    obtain ⟨rfl, rfl, rfl⟩ := hm
    exact iha (oc := .exit id) h1 hk
   ·rename_i e1 σ1 h1
    simp only [Option.some.injEq, Prod.mk.injEq] at hm
    obtain ⟨rfl, rfl, rfl⟩ := hm
    exact iha (oc := .ret) h1 hk
   ·cases hm
 | rfn g ps asg body iha ihb =>
  intro Y n0 K Rt E md env env' σ σ' oc h hk
  simp only [exC] at h
  split at h
  ·rename_i f first cap hg
   split at h
   ·rename_i xs pre hxs
    split at h
    ·rename_i oc1 σ1 h1
     simp only [Option.some.injEq, Prod.mk.injEq] at h
     obtain ⟨rfl, rfl, rfl⟩ := h
     simp only [ab, hg]
     refine ⟨xs.length, _, _, hi _ _ _ _ _ _ hxs, fun i s => roundsX pre (fun x σ => if x.length = ps.length then (match exC call pc oi n asg (puts env ps x) σ with
      | some (.fall, env', σ') => exC call pc oi n body env' σ'
      | _ => none) else none) (xs.drop i) s = some (oc1, σ1), fun i s hs => roundsX_pre hs, by simpa using h1, ?_, ?_⟩
     ·rintro i x s g _ ⟨hx, rfl⟩ hJ
      rw [List.append_nil]
      have hlt := (List.getElem?_eq_some_iff.1 hx).1
      have hd : xs.drop i = x :: xs.drop (i + 1) := by
       rw [List.drop_eq_getElem_cons hlt]
       rw [List.getElem?_eq_getElem hlt] at hx
       rw [Option.some.inj hx]
      rw [hd] at hJ
      have hpre := roundsX_pre hJ
      simp only [roundsX, hpre, if_true] at hJ
      by_cases hl : x.length = ps.length
      ·refine ⟨hl, ?_⟩
       simp only [hl, if_true] at hJ
       cases ha : exC call pc oi n asg (puts env ps x) s with
       | none => rw [ha] at hJ; cases hJ
       | some r =>
        obtain ⟨oa, ea, sa⟩ := r
        rw [ha] at hJ
        cases oa with
        | fall =>
         simp only at hJ
         refine iha (oc := .fall) ha ?_
         cases hb : exC call pc oi n body ea sa with
         | none => rw [hb] at hJ; cases hJ
         | some r =>
          obtain ⟨ob, eb, sb⟩ := r
          rw [hb] at hJ
          refine ihb hb ?_
          cases ob with
          | fall => exact ⟨rfl, .inl hJ⟩
          | exit id =>
           simp only [Option.some.injEq, Prod.mk.injEq] at hJ
           obtain ⟨rfl, rfl⟩ := hJ
           show exitK (constE env E) id _ _ _; rw [exitK_const]; exact hk
          | ret =>
           simp only [Option.some.injEq, Prod.mk.injEq] at hJ
           obtain ⟨rfl, rfl⟩ := hJ
           exact hk
        | exit id => cases hJ
        | ret => cases hJ
      ·simp only [hl, if_false] at hJ
       cases hJ
     ·intro s hJ
      rw [List.drop_length] at hJ
      have hpre := roundsX_pre hJ
      simp only [roundsX, hpre, if_true, Option.some.injEq, Prod.mk.injEq] at hJ
      obtain ⟨rfl, rfl⟩ := hJ
      exact hk
    ·cases h
   ·cases h
  ·cases h
 | exit id =>
  intro Y n0 K Rt E md env env' σ σ' oc h hk
  simp only [exC, Option.some.injEq, Prod.mk.injEq] at h
  obtain ⟨rfl, rfl, rfl⟩ := h
  exact hk
 | ret =>
  intro Y n0 K Rt E md env env' σ σ' oc h hk
  simp only [exC, Option.some.injEq, Prod.mk.injEq] at h
  obtain ⟨rfl, rfl, rfl⟩ := h
  exact hk
def resX : List IRes → Env → List O → Option (List V)
 | [], _, _ => some []
 | .tmp t :: r, env, σ => (resX r env σ).map (get env t :: ·)
 | .one t :: r, env, σ => ld1X (get env t) σ fun v => (resX r env σ).map (v :: ·)
 | .many n t :: r, env, σ => ldAX n (get env t) σ fun v => (resX r env σ).map (v :: ·)
theorem ld1K_mono {a : V} {σ : List O} {K K' : V → Prop} (h : ld1K a σ K) (hk : ∀ v, K v → K' v) : ld1K a σ K' :=
 evK_mono (g := Od.ev fun _ => a) (σ := σ) (K := fun v _ => K v) (K' := fun v _ => K' v) (fun v _ => hk v) (io := .load1 (.t 0)) h
theorem ldAK_mono {n : Nat} {a : V} {σ : List O} {K K' : V → Prop} (h : ldAK n a σ K) (hk : ∀ v, K v → K' v) : ldAK n a σ K' :=
 evK_mono (g := Od.ev fun _ => a) (σ := σ) (K := fun v _ => K v) (K' := fun v _ => K' v) (fun v _ => hk v) (io := .loadA n (.t 0)) h
theorem resX_sound {env : Env} {σ : List O} : ∀ {rs : List IRes} {vs : List V} {K : List V → Prop}, resX rs env σ = some vs → K vs → resK rs env σ K
 | [], vs, K, h, hk => by
  simp only [resX, Option.some.injEq] at h
  subst h
  exact hk
 | .tmp t :: r, vs, K, h, hk => by
  simp only [resX, Option.map_eq_some_iff] at h
  obtain ⟨ws, h1, rfl⟩ := h
  exact resX_sound (K := fun vs => K (get env t :: vs)) h1 hk
 | .one t :: r, vs, K, h, hk => by
  refine ld1K_mono (ld1X_sound h) (fun v hv => ?_)
  simp only [Option.map_eq_some_iff] at hv
  obtain ⟨ws, h1, rfl⟩ := hv
  exact resX_sound (K := fun vs => K (v :: vs)) h1 hk
 | .many n t :: r, vs, K, h, hk => by
  refine ldAK_mono (ldAX_sound h) (fun v hv => ?_)
  simp only [Option.map_eq_some_iff] at hv
  obtain ⟨ws, h1, rfl⟩ := hv
  exact resX_sound (K := fun vs => K (v :: vs)) h1 hk
structure Ft where
 ic : IC
 rs : List IRes
 mode : Nat
def bodyX (call pc : Cl) (oi : Oi) (n : Nat) (t : Ft) (args : List V) (σ : List O) : Option (V × List O) :=
 match exC call pc oi n t.ic (entry 0 args) σ with
 | some (.fall, env, σe) => (resX t.rs env σe).map fun vs => (retV vs, σe)
 | some (.ret, env, σe) => (resX t.rs env σe).map fun vs => (retV vs, σe)
 | _ => none
def D : Nat := 24
def coreX (T : FuncId → Option Ft) (orc : FuncId → List V → Option V) (oi : Oi) (n : Nat) (c pc : Cl) (f : FuncId) (args : List V) : Option V :=
 match orc f args with
 | some v => some v
 | none => match T f with
  | some t => match bodyX c pc oi n t args [] with
   | some (v, σe) => fV (frz D 0 σe v) some
   | none => none
  | none => none
def quietX (T : FuncId → Option Ft) (orc : FuncId → List V → Option V) (oi : Oi) (n : Nat) (c pc : Cl) : Cl := fun f args σ =>
 if pureL args = true then
  match coreX T orc oi n c pc f args with
  | some v => if v.pure = true then some (v, σ) else none
  | none => none
 else fL (args.map (frz D 0 σ)) fun args =>
  match coreX T orc oi n c pc f args with
  | some v => if v.flat = true then some (v, σ) else none
  | none => none
def fullX (T : FuncId → Option Ft) (orc : FuncId → List V → Option V) (oi : Oi) (n : Nat) (c pc : Cl) : Cl := fun f args σ =>
 match T f with
 | some t => match t.mode with
  | 0 => quietX T orc oi n c pc f args σ
  | 1 => match bodyX c pc oi n t args σ with
   | some (v, σe) => if σ.length ≤ σe.length then fV (frz D σ.length σe v) fun v => fSp (frzS D σ.length σe) fun σ' => some (v, σ') else none
   | none => none
  | _ => bodyX c pc oi n t args σ
 | none => quietX T orc oi n c pc f args σ
def callsX (T : FuncId → Option Ft) (orc : FuncId → List V → Option V) (oi : Oi) (n : Nat) : Nat → Cl × Cl
 | 0 => (fun _ _ _ => none, fun _ _ _ => none)
 | m + 1 => (fullX T orc oi n (callsX T orc oi n m).1 (callsX T orc oi n m).2, quietX T orc oi n (callsX T orc oi n m).1 (callsX T orc oi n m).2)
def TOK (P : Program) (T : FuncId → Option Ft) : Prop := ∀ f t, T f = some t → ∃ fn ex, Fn_ P f fn ex t.ic t.rs
def OrcOK (P : Program) (orc : FuncId → List V → Option V) : Prop := ∀ f args v, orc f args = some v → FSpec P f args [] v []
variable {T : FuncId → Option Ft} {orc : FuncId → List V → Option V} {n : Nat} {pc : Cl}
theorem bodyX_sound (hm : P.follows .mixedOrders = true) (hIt : ItOK P It) (hc : ClOK P call) (hpc : ClOK P pc) (hq : ClQuiet pc) (hi : ∀ f a b σ xs pre, oi f a b σ = some (xs, pre) → It f a b xs.length (fun i x _ g => xs[i]? = some x ∧ g = []) (fun σ => pre σ = true))
  {f : FuncId} {fn : Func} {ex : List Nat} {t : Ft} (hf : Fn_ P f fn ex t.ic t.rs) {args : List V} {σ σ' σe : List O} {v v' : V} (h : bodyX call pc oi n t args σ = some (v, σe))
  (hv : (∃ k m, σ.length ≤ m ∧ m ≤ σe.length ∧ frz k m σe v = v' ∧ frzS k m σe = σ') ∨ (v = v' ∧ σ' = σe)) : FSpec P f args σ v' σ' := by
 have fin : ∀ {env : Env} {σ1 : List O} {md : Md}, ((resX t.rs env σ1).map fun vs => (retV vs, σ1)) = some (v, σe) → finK t.rs σ v' σ' md env σ1 := by
  intro env σ1 md hr
  simp only [Option.map_eq_some_iff, Prod.mk.injEq] at hr
  obtain ⟨vs, h1, rfl, rfl⟩ := hr
  refine resX_sound h1 ?_
  rcases hv with ⟨k, m, a1, a2, a3, a4⟩ | ⟨a1, a2⟩
  ·exact .inl ⟨k, m, a1, a2, a3, .inl a4⟩
  ·exact .inr ⟨a1, a2⟩
 refine hf.spec hm hIt ?_
 simp only [bodyX] at h
 split at h
 ·rename_i env σ1 h1
  exact exC_sound hc hpc hq hi h1 (fin (md := some 0) h)
 ·rename_i env σ1 h1
  exact exC_sound hc hpc hq hi h1 (fin (md := some 0) h)
 ·cases h
theorem coreX_sound (hT : TOK P T) (ho : OrcOK P orc) (hm : P.follows .mixedOrders = true) (hIt : ItOK P It) (hc : ClOK P call) (hpc : ClOK P pc) (hq : ClQuiet pc) (hi : ∀ f a b σ xs pre, oi f a b σ = some (xs, pre) → It f a b xs.length (fun i x _ g => xs[i]? = some x ∧ g = []) (fun σ => pre σ = true))
  {f : FuncId} {args : List V} {v : V} (h : coreX T orc oi n call pc f args = some v) : FSpec P f args [] v [] := by
 simp only [coreX] at h
 split at h
 ·rename_i h1; cases h; exact ho _ _ _ h1
 ·split at h
  ·rename_i t h1
   split at h
   ·rename_i v1 σe h2
    simp only [fV_eq, Option.some.injEq] at h
    obtain ⟨fn, ex, hf⟩ := hT _ _ h1
    exact bodyX_sound hm hIt hc hpc hq hi hf h2 (.inl ⟨D, 0, Nat.zero_le _, Nat.zero_le _, h, by simp [frzS]⟩)
   ·cases h
  ·cases h
theorem quietX_sound (hT : TOK P T) (ho : OrcOK P orc) (hm : P.follows .mixedOrders = true) (hIt : ItOK P It) (hc : ClOK P call) (hpc : ClOK P pc) (hq : ClQuiet pc) (hi : ∀ f a b σ xs pre, oi f a b σ = some (xs, pre) → It f a b xs.length (fun i x _ g => xs[i]? = some x ∧ g = []) (fun σ => pre σ = true)) :
  ClOK P (quietX T orc oi n call pc) ∧ ClQuiet (quietX T orc oi n call pc) := by
 have key : ∀ f args σ v σ', quietX T orc oi n call pc f args σ = some (v, σ') → FSpec P f args σ v σ' ∧ σ' = σ := by
  intro f args σ v σ' h
  simp only [quietX] at h
  split at h
  ·rename_i hp
   split at h
   ·rename_i v1 h1
    split at h
    ·rename_i hv
     simp only [Option.some.injEq, Prod.mk.injEq] at h
     obtain ⟨rfl, rfl⟩ := h
     exact ⟨FSpec.frame (coreX_sound hT ho hm hIt hc hpc hq hi h1) hp hv, rfl⟩
    ·cases h
   ·cases h
  ·simp only [fL_eq] at h
   split at h
   ·rename_i v1 h1
    split at h
    ·rename_i hv
     simp only [Option.some.injEq, Prod.mk.injEq] at h
     obtain ⟨rfl, rfl⟩ := h
     exact ⟨FSpec.frozen D (coreX_sound hT ho hm hIt hc hpc hq hi h1) hv, rfl⟩
    ·cases h
   ·cases h
 exact ⟨fun f args σ v σ' h => (key f args σ v σ' h).1, fun f args σ v σ' h => (key f args σ v σ' h).2⟩
theorem fullX_sound (hT : TOK P T) (ho : OrcOK P orc) (hm : P.follows .mixedOrders = true) (hIt : ItOK P It) (hc : ClOK P call) (hpc : ClOK P pc) (hq : ClQuiet pc) (hi : ∀ f a b σ xs pre, oi f a b σ = some (xs, pre) → It f a b xs.length (fun i x _ g => xs[i]? = some x ∧ g = []) (fun σ => pre σ = true)) :
  ClOK P (fullX T orc oi n call pc) := by
 intro f args σ v σ' h
 have hQ := (quietX_sound (n := n) hT ho hm hIt hc hpc hq hi).1
 simp only [fullX] at h
 split at h
 ·rename_i t ht
  obtain ⟨fn, ex, hf⟩ := hT _ _ ht
  split at h
  ·exact hQ _ _ _ _ _ h
  ·split at h
   ·rename_i v1 σe h1
    split at h
    ·rename_i hl
     simp only [fV_eq, fSp_eq, Option.some.injEq, Prod.mk.injEq] at h
     exact bodyX_sound hm hIt hc hpc hq hi hf h1 (.inl ⟨D, σ.length, Nat.le_refl _, hl, h.1, h.2⟩)
    ·cases h
   ·cases h
  ·exact bodyX_sound hm hIt hc hpc hq hi hf h (.inr ⟨rfl, rfl⟩)
 ·exact hQ _ _ _ _ _ h
theorem callsX_sound (hT : TOK P T) (ho : OrcOK P orc) (hm : P.follows .mixedOrders = true) (hIt : ItOK P It) (hi : ∀ f a b σ xs pre, oi f a b σ = some (xs, pre) → It f a b xs.length (fun i x _ g => xs[i]? = some x ∧ g = []) (fun σ => pre σ = true)) : ∀ {m : Nat},
  ClOK P (callsX T orc oi n m).1 ∧ ClOK P (callsX T orc oi n m).2 ∧ ClQuiet (callsX T orc oi n m).2
 | 0 => ⟨fun _ _ _ _ _ h => (by cases h), fun _ _ _ _ _ h => (by cases h), fun _ _ _ _ _ h => (by cases h)⟩
 | m + 1 => by
  obtain ⟨h1, h2, h3⟩ := callsX_sound hT ho hm hIt hi (m := m)
  obtain ⟨q1, q2⟩ := quietX_sound (n := n) hT ho hm hIt h1 h2 h3 hi
  exact ⟨fullX_sound hT ho hm hIt h1 h2 h3 hi, q1, q2⟩
end
inductive Tr where
 | leaf
 | node (l : Tr) (k : Nat) (t : Ft) (r : Tr)
def Tr.get : Tr → Nat → Option Ft
 | .leaf, _ => none
 | .node l k t r, f => match Nat.beq f k with
  | true => some t
  | false => match Nat.blt f k with
   | true => l.get f
   | false => r.get f
def Tr.All (p : Nat → Ft → Prop) : Tr → Prop
 | .leaf => True
 | .node l k t r => l.All p ∧ p k t ∧ r.All p
theorem Tr.get_all {p : Nat → Ft → Prop} : ∀ {tr : Tr} {f : Nat} {t : Ft}, tr.All p → tr.get f = some t → p f t
 | .leaf, _, _, _, h => by cases h
 | .node l k t r, f, t', ha, h => by
  simp only [Tr.get] at h
  split at h
  ·rename_i hb
   have := Nat.eq_of_beq_eq_true hb
   subst this
   cases h
   exact ha.2.1
  ·split at h
   ·exact Tr.get_all ha.1 h
   ·exact Tr.get_all ha.2.2 h
theorem Tr.ok {P : Program} {tr : Tr} (h : tr.All fun f t => ∃ fn ex, Fn_ P f fn ex t.ic t.rs) : TOK P tr.get := fun f t ht => Tr.get_all h ht
theorem run_sound {P : Program} {T : FuncId → Option Ft} {orc : FuncId → List V → Option V} {oi : Oi} {n : Nat} {It : ItTy} (hT : TOK P T) (ho : OrcOK P orc) (hm : P.follows .mixedOrders = true) (hIt : ItOK P It)
  (hi : ∀ f a b σ xs pre, oi f a b σ = some (xs, pre) → It f a b xs.length (fun i x _ g => xs[i]? = some x ∧ g = []) (fun σ => pre σ = true)) {m : Nat} {f : FuncId} {args : List V} {σ σ' : List O} {v : V} (h : (callsX T orc oi n m).1 f args σ = some (v, σ')) : FSpec P f args σ v σ' :=
 (callsX_sound hT ho hm hIt hi).1 _ _ _ _ _ h
end Go.Ab
end
section
namespace Go.Ab
open Go Go.RowKit
def C0 (W : World) : Cx := { ρ := [], vs := [], Z := fun b => b < W.heap.size, w := W }
theorem C0_R (W : World) : R (C0 W) [] where
 wf := { len := rfl, inj := fun i j b p q hi => by simp [C0] at hi, lt := fun i b p hi => by simp [C0] at hi, zlt := fun b h => h, zρ := fun i b p hi => by simp [C0] at hi }
 len := rfl
 ver := fun id o ho => by simp at ho
 obj := fun id o blk bs ho => by simp at ho
theorem Ext.below {W : World} {C' : Cx} (h : Ext (C0 W) C') : Below W.heap.size W C'.w :=
 ⟨h.os, h.tape, h.output, h.size, fun k hk => h.frame k hk (fun i p hi => by simp [C0] at hi)⟩
theorem walk_of {P : Program} {f : FuncId} {args : List V} {cargs : List Value} {W : World} (h : FSpec P f args [] (.b true) []) (hv : VRl (C0 W) args cargs) :
  Calls P f cargs.toArray W fun e w' => e = .returned (.bool true) ∧ Below W.heap.size W w' := by
 refine (callsIn_wide.1 (h.2 (C0 W) cargs (C0_R W) hv)).mono ?_
 rintro e w' ⟨C', cv, rfl, rfl, h1, h2, h3⟩
 cases h3
 exact ⟨rfl, h2.below⟩
end Go.Ab
end
end
