/- The abstract layer, part 2: the operations of the intermediate form (one for each operation of the model that is met), what they do to abstract values and the abstract heap, and how they are read off the loaded code. -/
import Derived.Test.YtchmfamkpfaieaaAb1
set_option linter.unusedVariables false
set_option linter.unusedSimpArgs false
namespace Go.Ab
open Go

/-- An operand. -/
inductive Od where
  | t (n : Nat)
  | c (v : V)
  | fn (f : FuncId)
  deriving Inhabited

def Od.ev (env : Nat → V) : Od → V
  | .t n => env n
  | .c v => v
  | .fn f => .f (.func f) [] []

inductive IOp where
  | mov (x : Od)
  | pick (c a b : Od)
  | alloc (zs : List V)
  | box (x : Od)
  | build (zs : List V) (ps : List (Nat × Nat × Od))
  | bsl (frz : Bool) (es n : Nat) (zs : List V) (ps : List (Nat × Nat × Od))
  | load1 (a : Od)
  | loadA (n : Nat) (a : Od)
  | store1 (a x : Od)
  | storeA (n : Nat) (a x : Od)
  | nilc (x : Od)
  | bin (op : BinOp) (x y : Od)
  | eqv (k : IntKind) (n : Nat) (neq : Bool) (x y : Od)
  | eqb (neq : Bool) (x y : Od)
  | not (x : Od)
  | neg (x : Od)
  | conv (k : IntKind) (x : Od)
  | mkf (fn : Fn) (first cap : List Od)
  | mkmap
  | mksl (es bytes : Nat) (zs : List V) (l c : Od)
  | slc (es : Nat) (x : Od) (lo hi mx : Option Od)
  | sla (n es : Nat) (x : Od)
  | fad (off : Nat) (x : Od)
  | fld1 (off : Nat) (x : Od)
  | fldA (off size : Nat) (x : Od)
  | ixa (n es : Nat) (x i : Od)
  | ixs (es : Nat) (x i : Od)
  | ixv (n : Nat) (one : Option Nat) (x i : Od)
  | ext (i : Nat) (x : Od)
  | len (x : Od)
  | lenm (x : Od)
  | lens (x : Od)
  | app (es bytes : Nat) (x y : Od)
  | clr (es : Nat) (zs : List V) (x : Od)
  | cpy (es : Nat) (d s : Od)
  | mx (xs : List Od)
  | mn (xs : List Od)
  | lkp (q : IntKind) (n : Nat) (zs : V) (ok : Bool) (x k : Od)
  | mset (q : IntKind) (n : Nat) (x k v : Od)
  | mdel (q : IntKind) (n : Nat) (x k : Od)
  | rng (x : Od)
  | nxt (x : Od)
  | ent (x : Od)
  | call (f : FuncId) (args : List Od)
  | callv (g : Od) (args : List Od)
  deriving Inhabited

/-! ### What the operations do -/
def cellsOf : V → Option (List V)
  | .agg cs => some cs
  | .u => none
  | .tup _ => none
  | .b x => some [.b x]
  | .i k n => some [.i k n]
  | .str s => some [.str s]
  | .np => some [.np]
  | .p a b c => some [.p a b c]
  | .sp a b => some [.sp a b]
  | .s a b c d e => some [.s a b c d e]
  | .ss a b c => some [.ss a b c]
  | .nm => some [.nm]
  | .m a => some [.m a]
  | .sm a => some [.sm a]
  | .nf => some [.nf]
  | .f a b c => some [.f a b c]

def splice (cs : List V) (off : Nat) (vs : List V) : List V := cs.take off ++ vs ++ cs.drop (off + vs.length)

def fillV : List V → List (Nat × Nat × V) → Option (List V)
  | cs, [] => some cs
  | cs, (off, size, v) :: r =>
    match cellsOf v with
    | some vs => if vs.length = size ∧ off + size ≤ cs.length then fillV (splice cs off vs) r else none
    | none => none

def rep (n : Nat) (zs : List V) : List V := (List.replicate n zs).flatten

def liveV (σ : List O) (id ver : Nat) : Prop := (σ[id]?).map O.ver = some ver

def bitop (op : BinOp) (k : IntKind) (x y : Int) : Int :=
  let a := BitVec.ofInt k.bits x
  let b := BitVec.ofInt k.bits y
  match op with
  | .and => k.wrap ((a &&& b).toNat : Int)
  | .or => k.wrap ((a ||| b).toNat : Int)
  | .xor => k.wrap ((a ^^^ b).toNat : Int)
  | _ => k.wrap ((a &&& ~~~b).toNat : Int)

def binK (op : BinOp) (x y : V) (K : V → Prop) : Prop :=
  match x, y with
  | .i k a, .i k' b =>
    match op with
    | .shl => 0 ≤ b ∧ K (.i k (k.wrap (a * 2 ^ (min b.toNat k.bits))))
    | .shr => 0 ≤ b ∧ K (.i k (a.fdiv (2 ^ (min b.toNat k.bits))))
    | .add => k = k' ∧ K (.i k (k.wrap (a + b)))
    | .sub => k = k' ∧ K (.i k (k.wrap (a - b)))
    | .mul => k = k' ∧ K (.i k (k.wrap (a * b)))
    | .quo => k = k' ∧ b ≠ 0 ∧ K (.i k (k.wrap (a.tdiv b)))
    | .rem => k = k' ∧ b ≠ 0 ∧ K (.i k (a.tmod b))
    | .and => k = k' ∧ K (.i k (bitop .and k a b))
    | .or => k = k' ∧ K (.i k (bitop .or k a b))
    | .xor => k = k' ∧ K (.i k (bitop .xor k a b))
    | .andNot => k = k' ∧ K (.i k (bitop .andNot k a b))
    | .eql => k = k' ∧ K (.b (decide (a = b)))
    | .neq => k = k' ∧ K (.b (!decide (a = b)))
    | .lss => k = k' ∧ K (.b (decide (a < b)))
    | .leq => k = k' ∧ K (.b (decide (a ≤ b)))
    | .gtr => k = k' ∧ K (.b (decide (b < a)))
    | .geq => k = k' ∧ K (.b (decide (b ≤ a)))
  | _, _ => False

/-- The numbers of cells that are all of them whole numbers. -/
def intsOf : List V → Option (List Int)
  | [] => some []
  | .i _ n :: r => (intsOf r).map (n :: ·)
  | _ :: _ => none

/-- The numbers of cells that are all of them whole numbers of one kind. -/
def intsK (k : IntKind) : List V → Option (List Int)
  | [] => some []
  | .i k' n :: r => if k' = k then (intsK k r).map (n :: ·) else none
  | _ :: _ => none

def eqvK (k : IntKind) (n : Nat) (neq : Bool) (x y : V) (K : V → Prop) : Prop :=
  match x, y with
  | .agg xs, .agg ys =>
    match intsK k xs, intsK k ys with
    | some a, some b => xs.length = n ∧ ys.length = n ∧ K (.b (if neq then !decide (a = b) else decide (a = b)))
    | _, _ => False
  | _, _ => False

def eqbK (neq : Bool) (x y : V) (K : V → Prop) : Prop :=
  match x, y with
  | .b a, .b b => K (.b (if neq then !(a == b) else a == b))
  | _, _ => False

def ld1K (a : V) (σ : List O) (K : V → Prop) : Prop :=
  match a with
  | .p id ver off =>
    match σ[id]? with
    | some (.row v cells) => v = ver ∧ off < cells.length ∧ K (cells.getD off .u)
    | _ => False
  | .sp cells off => off < cells.length ∧ K (cells.getD off .u)
  | _ => False

def ldAK (n : Nat) (a : V) (σ : List O) (K : V → Prop) : Prop :=
  match a with
  | .p id ver off =>
    match σ[id]? with
    | some (.row v cells) => v = ver ∧ off + n ≤ cells.length ∧ K (.agg ((cells.drop off).take n))
    | _ => False
  | .sp cells off => off + n ≤ cells.length ∧ K (.agg ((cells.drop off).take n))
  | _ => False

def isAggV : V → Bool
  | .agg _ => true
  | _ => false

def st1K (a x : V) (σ : List O) (K : V → List O → Prop) : Prop :=
  match a with
  | .p id ver off =>
    match σ[id]? with
    | some (.row v cells) => v = ver ∧ off < cells.length ∧ cellsOf x = some [x] ∧ K .u (σ.set id (.row v (cells.set off x)))
    | _ => False
  | _ => False

def stAK (n : Nat) (a x : V) (σ : List O) (K : V → List O → Prop) : Prop :=
  match a, x with
  | .p id ver off, .agg xs =>
    match σ[id]? with
    | some (.row v cells) => v = ver ∧ xs.length = n ∧ off + n ≤ cells.length ∧ K .u (σ.set id (.row v (splice cells off xs)))
    | _ => False
  | _, _ => False

def nilcK (x : V) (σ : List O) (K : V → Prop) : Prop :=
  match x with
  | .p id ver off => liveV σ id ver ∧ K (.p id ver off)
  | .sp cs off => K (.sp cs off)
  | .f (.func f) a b => K (.f (.func f) a b)
  | _ => False

def slcB (len : Nat) (lo hi mx : Option V) (K : Nat → Nat → Option Nat → Prop) : Prop :=
  match mx with
  | none =>
    match hi with
    | none =>
      match lo with
      | none => K 0 len none
      | some (.i _ l) => 0 ≤ l ∧ l ≤ len ∧ K l.toNat len none
      | _ => False
    | some (.i _ h) =>
      match lo with
      | none => 0 ≤ h ∧ h ≤ len ∧ K 0 h.toNat none
      | some (.i _ l) => 0 ≤ l ∧ l ≤ h ∧ h ≤ len ∧ K l.toNat h.toNat none
      | _ => False
    | _ => False
  | some (.i _ m) =>
    match hi with
    | some (.i _ h) =>
      match lo with
      | none => 0 ≤ h ∧ h ≤ m ∧ m ≤ len ∧ K 0 h.toNat (some m.toNat)
      | some (.i _ l) => 0 ≤ l ∧ l ≤ h ∧ h ≤ m ∧ m ≤ len ∧ K l.toNat h.toNat (some m.toNat)
      | _ => False
    | _ => False
  | _ => False

def fullOf (m : Option Nat) (h len : Nat) (full : Bool) : Bool :=
  match m with
  | some m => decide (m = h)
  | none => full && decide (h = len)

def slcK (es : Nat) (x : V) (lo hi mx : Option V) (σ : List O) (K : V → Prop) : Prop :=
  match x with
  | .s id ver off len es' => es = es' ∧ liveV σ id ver ∧ slcB len lo hi mx fun l h _ => K (.s id ver (off + l * es) (h - l) es)
  | .ss cells len full => slcB len lo hi mx fun l h m => K (.ss ((cells.drop (l * es)).take ((h - l) * es)) (h - l) (fullOf m h len full))
  | _ => False

def slaK (n es : Nat) (x : V) (σ : List O) (K : V → Prop) : Prop :=
  match x with
  | .p id ver off =>
    match σ[id]? with
    | some (.row v cells) => v = ver ∧ off + n * es ≤ cells.length ∧ K (.s id ver off n es)
    | _ => False
  | _ => False

def fadK (o : Nat) (x : V) (σ : List O) (K : V → Prop) : Prop :=
  match x with
  | .p id ver off => liveV σ id ver ∧ K (.p id ver (off + o))
  | .sp cells off => K (.sp cells (off + o))
  | _ => False

def ixaK (n es : Nat) (x i : V) (σ : List O) (K : V → Prop) : Prop :=
  match x, i with
  | .p id ver off, .i _ j => liveV σ id ver ∧ 0 ≤ j ∧ j < n ∧ K (.p id ver (off + j.toNat * es))
  | .sp cells off, .i _ j => 0 ≤ j ∧ j < n ∧ K (.sp cells (off + j.toNat * es))
  | _, _ => False

/-- An element of an array value: one cell, or so many. -/
def ixvK (n : Nat) (one : Option Nat) (x i : V) (K : V → Prop) : Prop :=
  match x, i with
  | .agg cs, .i _ j => 0 ≤ j ∧ j < n ∧
    match one with
    | none => cs.length = n ∧ K (cs.getD j.toNat .u)
    | some s => cs.length = n * s ∧ K (.agg ((cs.drop (j.toNat * s)).take s))
  | _, _ => False

def ixsK (es : Nat) (x i : V) (σ : List O) (K : V → Prop) : Prop :=
  match x, i with
  | .s id ver off len es', .i _ j => es = es' ∧ liveV σ id ver ∧ 0 ≤ j ∧ j < len ∧ K (.p id ver (off + j.toNat * es))
  | .ss cells len _, .i _ j => 0 ≤ j ∧ j < len ∧ K (.sp cells (j.toNat * es))
  | _, _ => False

/-- The cells that a slice reads. -/
def rowOf (es : Nat) (y : V) (σ : List O) (K : List V → Nat → Prop) : Prop :=
  match y with
  | .ss ys m _ => ys.length = m * es ∧ K ys m
  | .s id ver off m es' =>
    match σ[id]? with
    | some (.row v cells) => v = ver ∧ es = es' ∧ off + m * es ≤ cells.length ∧ K ((cells.drop off).take (m * es)) m
    | _ => False
  | _ => False

def appK (es bytes : Nat) (x y : V) (σ : List O) (K : V → List O → Prop) : Prop :=
  rowOf es y σ fun ys m =>
    match x with
    | .ss xs n true => xs.length = n * es ∧ (n + m) * bytes ≤ 140737488355328 ∧
        if m = 0 then K (.ss xs n true) σ else K (.s σ.length 0 0 (n + m) es) (σ ++ [.row 0 (xs ++ ys)])
    | .s id ver off n es' =>
      match σ[id]? with
      | some (.row v cells) => v = ver ∧ es = es' ∧ off + n * es = cells.length ∧ (n + m) * bytes ≤ 140737488355328 ∧
          if m = 0 then K (.s id ver off n es) σ else K (.s id (ver + 1) 0 (n + m) es) (σ.set id (.row (ver + 1) (cells.drop off ++ ys)))
      | _ => False
    | _ => False

def lenK (x : V) (σ : List O) (K : V → Prop) : Prop :=
  match x with
  | .s id ver _ len _ => liveV σ id ver ∧ K (.i .i64 len)
  | .ss _ len _ => K (.i .i64 len)
  | _ => False

def lenmK (x : V) (σ : List O) (K : V → Prop) : Prop :=
  match x with
  | .sm l => K (.i .i64 l.length)
  | .m id => match σ[id]? with
    | some (.map es _) => K (.i .i64 es.length)
    | _ => False
  | .nm => K (.i .i64 0)
  | _ => False

def lensK (x : V) (K : V → Prop) : Prop :=
  match x with
  | .str s => K (.i .i64 s.size)
  | _ => False

def clrK (es : Nat) (zs : List V) (x : V) (σ : List O) (K : V → List O → Prop) : Prop :=
  match x with
  | .s id ver off n es' =>
    match σ[id]? with
    | some (.row v cells) => v = ver ∧ es = es' ∧ off + n * es ≤ cells.length ∧ K .u (σ.set id (.row v (splice cells off (rep n zs))))
    | _ => False
  | .ss [] 0 _ => K .u σ
  | _ => False

def cpyK (es : Nat) (d s : V) (σ : List O) (K : V → List O → Prop) : Prop :=
  rowOf es s σ fun ys m =>
    match d with
    | .s id ver off n es' =>
      match σ[id]? with
      | some (.row v cells) => v = ver ∧ es = es' ∧ off + n * es ≤ cells.length ∧ K (.i .i64 (min m n : Nat)) (σ.set id (.row v (splice cells off (ys.take (min m n * es)))))
      | _ => False
    | .ss [] 0 _ => K (.i .i64 0) σ
    | _ => False

def mxK (f : Int → Int → Int) : List V → (V → Prop) → Prop
  | .i k a :: r, K => match intsOf r with
    | some l => K (.i k (l.foldl f a))
    | none => False
  | _, _ => False

def extK (i : Nat) (x : V) (K : V → Prop) : Prop :=
  match x with
  | .tup vs => i < vs.length ∧ K (vs.getD i .u)
  | _ => False

/-- Keys: a whole number, or so many in a struct. -/
def keyOf (q : IntKind) (n : Nat) (k : V) : Option (List Int) :=
  match k with
  | .agg cs => if cs.length = n ∧ n ≠ 0 then intsK q cs else none
  | .i k' a => if n = 0 ∧ k' = q then some [a] else none
  | _ => none

def findM (q : IntKind) (n : Nat) (k : List Int) : List (V × V) → Option V
  | [] => none
  | (k', v) :: r => if keyOf q n k' = some k then some v else findM q n k r

def keysOK (q : IntKind) (n : Nat) (l : List (V × V)) : Prop := ∀ e ∈ l, ∃ k, keyOf q n e.1 = some k

def lkpF (q : IntKind) (n : Nat) (zs : V) (ok : Bool) (ks : List Int) (l : List (V × V)) (K : V → Prop) : Prop :=
  keysOK q n l ∧
    match findM q n ks l with
    | some v => K (if ok then .tup [v, .b true] else v)
    | none => K (if ok then .tup [zs, .b false] else zs)

def lkpK (q : IntKind) (n : Nat) (zs : V) (ok : Bool) (x k : V) (σ : List O) (K : V → Prop) : Prop :=
  match keyOf q n k with
  | some ks =>
    match x with
    | .sm l => lkpF q n zs ok ks l K
    | .m id => match σ[id]? with
      | some (.map es _) => lkpF q n zs ok ks (es.map (·.2)) K
      | _ => False
    | .nm => K (if ok then .tup [zs, .b false] else zs)
    | _ => False
  | none => False

def idxM (q : IntKind) (n : Nat) (k : List Int) : List (V × V) → Option Nat
  | [] => none
  | (k', _) :: r => if keyOf q n k' = some k then some 0 else (idxM q n k r).map (· + 1)

def msetK (q : IntKind) (n : Nat) (x k v : V) (σ : List O) (K : V → List O → Prop) : Prop :=
  match keyOf q n k, x with
  | some ks, .m id =>
    match σ[id]? with
    | some (.map es clock) => keysOK q n (es.map (·.2)) ∧
      match idxM q n ks (es.map (·.2)) with
      | some i => K .u (σ.set id (.map (es.modify i fun e => (e.1, k, v)) clock))
      | none => K .u (σ.set id (.map (es ++ [(clock, k, v)]) (clock + 1)))
    | _ => False
  | _, _ => False

def mdelK (q : IntKind) (n : Nat) (x k : V) (σ : List O) (K : V → List O → Prop) : Prop :=
  match keyOf q n k, x with
  | some ks, .m id =>
    match σ[id]? with
    | some (.map es clock) => keysOK q n (es.map (·.2)) ∧
      match idxM q n ks (es.map (·.2)) with
      | some i => K .u (σ.set id (.map (es.eraseIdx i) clock))
      | none => K .u (σ.set id (.map es clock))
    | _ => False
  | _, _ => False

def rngK (x : V) (σ : List O) (K : V → List O → Prop) : Prop :=
  match x with
  | .m id =>
    match σ[id]? with
    | some (.map es clock) => K (.p σ.length 0 0) (σ ++ [.it id clock [] clock])
    | _ => False
  | _ => False

/-- Whatever is left may come next. -/
def nxtK (x : V) (σ : List O) (K : V → List O → Prop) : Prop :=
  match x with
  | .p id ver off =>
    match σ[id]? with
    | some (.it mid since seen stepped) =>
      match σ[mid]? with
      | some (.map es clock) => ver = 0 ∧ off = 0 ∧ clock = since ∧ stepped = since ∧ (∀ e ∈ es, e.1 < since) ∧
        ((∀ e ∈ es, e.1 ∈ seen) → K (.tup [.b false]) σ) ∧
        (∀ e ∈ es, e.1 ∉ seen → K (.tup [.b true, e.2.1, e.2.2]) (σ.set id (.it mid since (seen ++ [e.1]) clock)))
      | _ => False
    | _ => False
  | _ => False

def entK (x : V) (σ : List O) (K : V → Prop) : Prop :=
  match x with
  | .p id ver off =>
    match σ[id]? with
    | some (.it mid since seen stepped) =>
      match σ[mid]?, seen.getLast? with
      | some (.map es clock), some b => ver = 0 ∧ off = 0 ∧ clock = stepped ∧
        match es.find? (fun e => e.1 == b) with
        | some e => K (.tup [e.2.1, e.2.2])
        | none => False
      | _, _ => False
    | _ => False
  | _ => False

def evK (g : Od → V) (σ : List O) (K : V → List O → Prop) : IOp → Prop
  | .mov x => K (g x) σ
  | .pick c a b => match g c with
    | .b t => K (if t then g a else g b) σ
    | _ => False
  | .alloc zs => K (.p σ.length 0 0) (σ ++ [.row 0 zs])
  | .box x => match cellsOf (g x) with
    | some cs => K (.p σ.length 0 0) (σ ++ [.row 0 cs])
    | none => False
  | .build zs ps => match fillV zs (ps.map fun p => (p.1, p.2.1, g p.2.2)) with
    | some cs => K (.agg cs) σ
    | none => False
  | .bsl frz es n zs ps => match fillV zs (ps.map fun p => (p.1, p.2.1, g p.2.2)) with
    | some cs => if frz then K (.ss cs n true) σ else K (.s σ.length 0 0 n es) (σ ++ [.row 0 cs])
    | none => False
  | .load1 a => ld1K (g a) σ fun v => K v σ
  | .loadA n a => ldAK n (g a) σ fun v => K v σ
  | .store1 a x => st1K (g a) (g x) σ K
  | .storeA n a x => stAK n (g a) (g x) σ K
  | .nilc x => nilcK (g x) σ fun v => K v σ
  | .bin op x y => binK op (g x) (g y) fun v => K v σ
  | .eqv k n neq x y => eqvK k n neq (g x) (g y) fun v => K v σ
  | .eqb neq x y => eqbK neq (g x) (g y) fun v => K v σ
  | .not x => match g x with
    | .b t => K (.b (!t)) σ
    | _ => False
  | .neg x => match g x with
    | .i k n => K (.i k (k.wrap (0 - n))) σ
    | _ => False
  | .conv k x => match g x with
    | .i _ n => K (.i k (k.wrap n)) σ
    | _ => False
  | .mkf fn first cap => K (.f fn (first.map g) (cap.map g)) σ
  | .mkmap => K (.m σ.length) (σ ++ [.map [] 0])
  | .mksl es bytes zs l c => match g l, g c with
    | .i _ n, .i _ n' => n = n' ∧ 0 ≤ n ∧ n ≤ 281474976710656 ∧ bytes * n ≤ 281474976710656 ∧ K (.s σ.length 0 0 n.toNat es) (σ ++ [.row 0 (rep n.toNat zs)])
    | _, _ => False
  | .slc es x lo hi mx => slcK es (g x) (lo.map g) (hi.map g) (mx.map g) σ fun v => K v σ
  | .sla n es x => slaK n es (g x) σ fun v => K v σ
  | .fad o x => fadK o (g x) σ fun v => K v σ
  | .fld1 off x => match g x with
    | .agg cs => off < cs.length ∧ K (cs.getD off .u) σ
    | _ => False
  | .fldA off size x => match g x with
    | .agg cs => off + size ≤ cs.length ∧ K (.agg ((cs.drop off).take size)) σ
    | _ => False
  | .ixa n es x i => ixaK n es (g x) (g i) σ fun v => K v σ
  | .ixs es x i => ixsK es (g x) (g i) σ fun v => K v σ
  | .ixv n one x i => ixvK n one (g x) (g i) fun v => K v σ
  | .ext i x => extK i (g x) fun v => K v σ
  | .len x => lenK (g x) σ fun v => K v σ
  | .lenm x => lenmK (g x) σ fun v => K v σ
  | .lens x => lensK (g x) fun v => K v σ
  | .app es bytes x y => appK es bytes (g x) (g y) σ K
  | .clr es zs x => clrK es zs (g x) σ K
  | .cpy es d s => cpyK es (g d) (g s) σ K
  | .mx xs => mxK max (xs.map g) fun v => K v σ
  | .mn xs => mxK min (xs.map g) fun v => K v σ
  | .lkp q n zs ok x k => lkpK q n zs ok (g x) (g k) σ fun v => K v σ
  | .mset q n x k v => msetK q n (g x) (g k) (g v) σ K
  | .mdel q n x k => mdelK q n (g x) (g k) σ K
  | .rng x => rngK (g x) σ K
  | .nxt x => nxtK (g x) σ K
  | .ent x => entK (g x) σ fun v => K v σ
  | .call _ _ => False
  | .callv _ _ => False

/-! ### How they are read off the code -/
def cv1 : Value → Option V
  | .bool b => some (.b b)
  | .int k n => some (.i k n)
  | .string s => some (.str s)
  | .pointer none => some .np
  | .slice none 0 0 => some (.ss [] 0 true)
  | .map none => some .nm
  | .nilFunc => some .nf
  | _ => none

def cvl : List Value → Option (List V)
  | [] => some []
  | v :: r => match cv1 v, cvl r with
    | some x, some xs => some (x :: xs)
    | _, _ => none

def cvV : Value → Option V
  | .agg cs => (cvl cs.toList).map .agg
  | v => cv1 v

def trX : Operand → Option Od
  | .tmp t => some (.t t)
  | .const v => (cvV v).map .c
  | .func f => some (.fn f)
  | .global _ => none

def trXs : List Operand → Option (List Od)
  | [] => some []
  | x :: r => match trX x, trXs r with
    | some y, some ys => some (y :: ys)
    | _, _ => none

def trO : Option Operand → Option (Option Od)
  | none => some none
  | some x => (trX x).map some

def szP (P : Program) (t : TypeId) : Option Nat := (P.info? t).map (·.size)
def zcP (P : Program) (t : TypeId) : Option (List V) :=
  match P.info? t with
  | some i => match i.zero with
    | some z => cvl z.cells.toList
    | none => none
  | none => none
def aggP (P : Program) (t : TypeId) : Option Bool :=
  match P.underlying t with
  | some (.struct _) => some true
  | some (.array _ _) => some true
  | some _ => some false
  | none => none

def trParts (P : Program) (place : Nat → Option (Nat × Nat)) : List (Nat × Operand) → Option (List (Nat × Nat × Od))
  | [] => some []
  | (i, x) :: r => match place i, trX x, trParts P place r with
    | some (o, s), some y, some ys => some ((o, s, y) :: ys)
    | _, _, _ => none

/-- Fields that are all of them one whole number each, at their places, all of one kind. -/
def intFields (P : Program) (q : IntKind) : List Field → Nat → Bool
  | [], _ => true
  | f :: r, j => f.name != "_" && f.offset == j && szP P f.type == some 1 && (match P.underlying f.type with | some (.int k) => k == q | _ => false) && intFields P q r (j + 1)

/-- The kind of the first one. -/
def firstKind (P : Program) : List Field → Option IntKind
  | f :: _ => match P.underlying f.type with
    | some (.int k) => some k
    | _ => none
  | [] => none

/-- What a key's type is: the kind, and 0: a whole number; n: a struct of n of them. -/
def keyP (P : Program) (t : TypeId) : Option (IntKind × Nat) :=
  match P.underlying t with
  | some (.int k) => some (k, 0)
  | some (.struct fs) => match firstKind P fs.toList with
    | some q => if intFields P q fs.toList 0 = true ∧ P.stoodInHeld t = false then some (q, fs.size) else none
    | none => none
  | _ => none

/-- Values of this type are compared number by number. -/
def eqP (P : Program) (t : TypeId) : Option (IntKind × Nat) :=
  if P.eqGuardType P.depth t = true then none else
  match P.underlying t with
  | some (.struct fs) => match firstKind P fs.toList with
    | some q => if intFields P q fs.toList 0 = true ∧ P.stoodInHeld t = false then some (q, fs.size) else none
    | none => none
  | some (.array n e) => match P.underlying e with
    | some (.int k) => if szP P e = some 1 then some (k, n) else none
    | _ => none
  | _ => none

end Go.Ab
