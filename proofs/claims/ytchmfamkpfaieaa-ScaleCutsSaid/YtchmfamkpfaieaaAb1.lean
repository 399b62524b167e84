/- The abstract layer, part 1: abstract values, contexts (blocks of ids, versions, frozen blocks, the world), what an abstract value says of a concrete one, and that this outlives every step that keeps what it speaks of. Plain lemmas; nothing of any program. -/
import Derived.RangeFuncRecord
import Derived.WalkKit
import Derived.OrdersIn
import Derived.Below
import Derived.RangeFuncCalls
set_option linter.unusedVariables false
set_option linter.unusedSimpArgs false
namespace Go.Ab
open Go

inductive V where
  | u
  | b (x : Bool)
  | i (k : IntKind) (n : Int)
  | str (s : ByteArray)
  | np
  | p (id ver off : Nat)
  | sp (cells : List V) (off : Nat)
  | s (id ver off len es : Nat)
  | ss (cells : List V) (len : Nat) (full : Bool)
  | nm
  | m (id : Nat)
  | sm (es : List (V × V))
  | nf
  | f (fn : Fn) (first cap : List V)
  | agg (cells : List V)
  | tup (vs : List V)
  deriving Inhabited

inductive O where
  | row (ver : Nat) (cells : List V)
  | map (es : List (Nat × V × V)) (clock : Nat)
  | it (mid since : Nat) (seen : List Nat) (stepped : Nat)
  | dead (ver : Nat)
  deriving Inhabited

def O.ver : O → Nat
  | .row v _ => v
  | .dead v => v
  | _ => 0

abbrev one1 (v : Value) : Bool := v.oneCell'

structure Cx where
  ρ : List (Nat × Nat)
  vs : List Nat
  Z : Nat → Prop
  w : World

inductive VR (C : Cx) : V → Value → Prop
  | u (c : Value) : VR C .u c
  | b (x : Bool) : VR C (.b x) (.bool x)
  | i (k : IntKind) (n : Int) : VR C (.i k n) (.int k n)
  | str (s : ByteArray) : VR C (.str s) (.string s)
  | np : VR C .np (.pointer none)
  | p (id ver off blk bs : Nat) (h : C.ρ[id]? = some (blk, bs)) (hv : C.vs[id]? = some ver) : VR C (.p id ver off) (.pointer (some ⟨blk, bs + off, none⟩))
  | p0 (id ver off v : Nat) (c : Value) (h1 : one1 c = true) (hv : C.vs[id]? = some v) (hl : ver < v) : VR C (.p id ver off) c
  | sp (cells : List V) (off blk base : Nat) (cs : List Value) (hz : C.Z blk) (hl : cs.length = cells.length) (h1 : ∀ c ∈ cs, one1 c = true)
      (hc : ∀ (j : Nat) (c : Value), cs[j]? = some c → C.w.cell? ⟨blk, base + j, none⟩ = some c)
      (hv : ∀ (j : Nat) (x : V) (c : Value), cells[j]? = some x → cs[j]? = some c → VR C x c) : VR C (.sp cells off) (.pointer (some ⟨blk, base + off, none⟩))
  | s (id ver off len es blk bs at_ cap : Nat) (cc : Array Value) (t : TypeId) (h : C.ρ[id]? = some (blk, bs)) (hv : C.vs[id]? = some ver) (hlc : len ≤ cap)
      (hb : C.w.heap[blk]? = some (.cells cc t (0, 0))) (hs : bs + off + cap * es ≤ cc.size) (ha : cap ≠ 0 → at_ = bs + off) :
      VR C (.s id ver off len es) (.slice (some ⟨blk, at_, none⟩) len cap)
  | s0 (id ver off len es v : Nat) (c : Value) (h1 : one1 c = true) (hv : C.vs[id]? = some v) (hl : ver < v) : VR C (.s id ver off len es) c
  | ss0 (a : Option Addr) (cap : Nat) : VR C (.ss [] 0 false) (.slice a 0 cap)
  | ssn (a : Option Addr) : VR C (.ss [] 0 true) (.slice a 0 0)
  | ss (cells : List V) (len : Nat) (full : Bool) (blk base cap : Nat) (cs : List Value) (hz : C.Z blk) (hl : cs.length = cells.length) (h1 : ∀ c ∈ cs, one1 c = true)
      (hc : ∀ (j : Nat) (c : Value), cs[j]? = some c → C.w.cell? ⟨blk, base + j, none⟩ = some c)
      (hv : ∀ (j : Nat) (x : V) (c : Value), cells[j]? = some x → cs[j]? = some c → VR C x c) (hlc : len ≤ cap) (hf : full = true → cap = len) :
      VR C (.ss cells len full) (.slice (some ⟨blk, base, none⟩) len cap)
  | nm : VR C .nm (.map none)
  | m (id blk bs : Nat) (h : C.ρ[id]? = some (blk, bs)) (hv : C.vs[id]? = some 0) : VR C (.m id) (.map (some blk))
  | m0 (id v : Nat) (c : Value) (h1 : one1 c = true) (hv : C.vs[id]? = some v) (hl : 0 < v) : VR C (.m id) c
  | sm (l : List (V × V)) (blk : Nat) (es : Array MapEntry) (clock : Nat) (hz : C.Z blk) (hb : C.w.heap[blk]? = some (.map es clock)) (hl : es.size = l.length)
      (hk : ∀ (j : Nat) (k v : V) (e : MapEntry), l[j]? = some (k, v) → es[j]? = some e → VR C k e.key)
      (hv : ∀ (j : Nat) (k v : V) (e : MapEntry), l[j]? = some (k, v) → es[j]? = some e → VR C v e.val) : VR C (.sm l) (.map (some blk))
  | nf : VR C .nf .nilFunc
  | f (fn : Fn) (first cap : List V) (cf cc : Array Value) (hl1 : cf.size = first.length) (hl2 : cc.size = cap.length)
      (h1 : ∀ (j : Nat) (x : V) (c : Value), first[j]? = some x → cf[j]? = some c → VR C x c)
      (h2 : ∀ (j : Nat) (x : V) (c : Value), cap[j]? = some x → cc[j]? = some c → VR C x c) : VR C (.f fn first cap) (.func fn cf cc)
  | agg (cells : List V) (cs : Array Value) (hl : cs.size = cells.length) (h1 : ∀ c ∈ cs, one1 c = true)
      (hv : ∀ (j : Nat) (x : V) (c : Value), cells[j]? = some x → cs[j]? = some c → VR C x c) : VR C (.agg cells) (.agg cs)
  | tup (vs : List V) (cs : Array Value) (hl : cs.size = vs.length)
      (hv : ∀ (j : Nat) (x : V) (c : Value), vs[j]? = some x → cs[j]? = some c → VR C x c) : VR C (.tup vs) (.tuple cs)

/-- Lists of values. -/
def VRl (C : Cx) (xs : List V) (cs : List Value) : Prop := cs.length = xs.length ∧ ∀ (j : Nat) (x : V) (c : Value), xs[j]? = some x → cs[j]? = some c → VR C x c

structure Wf (C : Cx) : Prop where
  len : C.ρ.length = C.vs.length
  inj : ∀ (i j b p q : Nat), C.ρ[i]? = some (b, p) → C.ρ[j]? = some (b, q) → i = j
  lt : ∀ (i b p : Nat), C.ρ[i]? = some (b, p) → b < C.w.heap.size
  zlt : ∀ b, C.Z b → b < C.w.heap.size
  zρ : ∀ (i b p : Nat), C.ρ[i]? = some (b, p) → ¬ C.Z b

structure Ext (C C' : Cx) : Prop where
  os : C'.w.os = C.w.os
  tape : C'.w.tape = C.w.tape
  output : C'.w.output = C.w.output
  size : C.w.heap.size ≤ C'.w.heap.size
  frame : ∀ b, b < C.w.heap.size → (∀ i p : Nat, C.ρ[i]? ≠ some (b, p)) → C'.w.heap[b]? = C.w.heap[b]?
  z : ∀ b, C.Z b → C'.Z b
  nz : ∀ b, C'.Z b → C.Z b ∨ C.w.heap.size ≤ b
  nρ : ∀ (i b p : Nat), C'.ρ[i]? = some (b, p) → (∃ q, C.ρ[i]? = some (b, q)) ∨ C.w.heap.size ≤ b
  vs : ∀ (i v : Nat), C.vs[i]? = some v → ∃ v', C'.vs[i]? = some v' ∧ v ≤ v'
  same : ∀ (i v b p : Nat), C.vs[i]? = some v → C'.vs[i]? = some v → C.ρ[i]? = some (b, p) → C'.ρ[i]? = some (b, p) ∧
    ∀ cc t, C.w.heap[b]? = some (.cells cc t (0, 0)) → ∃ cc', C'.w.heap[b]? = some (.cells cc' t (0, 0)) ∧ cc'.size = cc.size

theorem Ext.refl (C : Cx) : Ext C C :=
  ⟨rfl, rfl, rfl, Nat.le_refl _, fun _ _ _ => rfl, fun _ h => h, fun _ h => .inl h, fun _ _ p h => .inl ⟨p, h⟩, fun _ v h => ⟨v, h, Nat.le_refl _⟩,
    fun _ _ _ _ _ _ h => ⟨h, fun cc t hb => ⟨cc, hb, rfl⟩⟩⟩

theorem Ext.trans {A B D : Cx} (h : Ext A B) (k : Ext B D) : Ext A D where
  os := k.os.trans h.os
  tape := k.tape.trans h.tape
  output := k.output.trans h.output
  size := Nat.le_trans h.size k.size
  frame := fun b hb hn => by
    have h1 := h.frame b hb hn
    refine (k.frame b (Nat.lt_of_lt_of_le hb h.size) (fun i p hi => ?_)).trans h1
    rcases h.nρ i b p hi with ⟨q, h2⟩ | h2
    · exact hn i q h2
    · omega
  z := fun b hb => k.z b (h.z b hb)
  nz := fun b hb => by
    rcases k.nz b hb with h1 | h1
    · exact h.nz b h1
    · exact .inr (Nat.le_trans h.size h1)
  nρ := fun i b p hi => by
    rcases k.nρ i b p hi with ⟨q, h1⟩ | h1
    · exact h.nρ i b q h1
    · exact .inr (Nat.le_trans h.size h1)
  vs := fun i v hv => by
    obtain ⟨v1, h1, l1⟩ := h.vs i v hv
    obtain ⟨v2, h2, l2⟩ := k.vs i v1 h1
    exact ⟨v2, h2, Nat.le_trans l1 l2⟩
  same := fun i v b p hv hv' hb => by
    obtain ⟨v1, h1, l1⟩ := h.vs i v hv
    obtain ⟨v2, h2, l2⟩ := k.vs i v1 h1
    rw [hv'] at h2
    cases h2
    obtain rfl : v1 = v := by omega
    obtain ⟨p1, q1⟩ := h.same i v1 b p hv h1 hb
    obtain ⟨p2, q2⟩ := k.same i v1 b p h1 hv' p1
    refine ⟨p2, fun cc t hc => ?_⟩
    obtain ⟨cc1, hc1, e1⟩ := q1 cc t hc
    obtain ⟨cc2, hc2, e2⟩ := q2 cc1 t hc1
    exact ⟨cc2, hc2, e2.trans e1⟩

theorem cell?_of_heap {w w' : World} {a : Addr} (h : w'.heap[a.block]? = w.heap[a.block]?) : w'.cell? a = w.cell? a := World.cell?_of_block (w := w) h

theorem Ext.zsame {C C' : Cx} (e : Ext C C') (wf : Wf C) {b : Nat} (hz : C.Z b) : C'.w.heap[b]? = C.w.heap[b]? :=
  e.frame b (wf.zlt b hz) (fun i p hi => wf.zρ i b p hi hz)

theorem VR.ext {C C' : Cx} (e : Ext C C') (wf : Wf C) {x : V} {c : Value} (h : VR C x c) : VR C' x c := by
  induction h with
  | u c => exact .u c
  | b x => exact .b x
  | i k n => exact .i k n
  | str s => exact .str s
  | np => exact .np
  | p id ver off blk bs h hv =>
    obtain ⟨v', hv', l⟩ := e.vs id ver hv
    by_cases he : v' = ver
    · subst he
      exact .p id v' off blk bs (e.same id v' blk bs hv hv' h).1 hv'
    · exact .p0 id ver off v' _ rfl hv' (by omega)
  | p0 id ver off v c h1 hv hl =>
    obtain ⟨v', hv', l⟩ := e.vs id v hv
    exact .p0 id ver off v' c h1 hv' (by omega)
  | sp cells off blk base cs hz hl h1 hc hv ih =>
    refine .sp cells off blk base cs (e.z _ hz) hl h1 (fun j c hj => ?_) (fun j x c hx hc' => ih j x c hx hc')
    rw [cell?_of_heap (w := C.w) (e.zsame wf hz)]
    exact hc j c hj
  | s id ver off len es blk bs at_ cap cc t h hv hlc hb hs ha =>
    obtain ⟨v', hv', l⟩ := e.vs id ver hv
    by_cases he : v' = ver
    · subst he
      obtain ⟨p1, q1⟩ := e.same id v' blk bs hv hv' h
      obtain ⟨cc', hc', e'⟩ := q1 cc t hb
      exact .s id v' off len es blk bs at_ cap cc' t p1 hv' hlc hc' (by omega) ha
    · exact .s0 id ver off len es v' _ rfl hv' (by omega)
  | s0 id ver off len es v c h1 hv hl =>
    obtain ⟨v', hv', l⟩ := e.vs id v hv
    exact .s0 id ver off len es v' c h1 hv' (by omega)
  | ss0 a cap => exact .ss0 a cap
  | ssn a => exact .ssn a
  | ss cells len full blk base cap cs hz hl h1 hc hv hlc hf ih =>
    refine .ss cells len full blk base cap cs (e.z _ hz) hl h1 (fun j c hj => ?_) (fun j x c hx hc' => ih j x c hx hc') hlc hf
    rw [cell?_of_heap (w := C.w) (e.zsame wf hz)]
    exact hc j c hj
  | nm => exact .nm
  | m id blk bs h hv =>
    obtain ⟨v', hv', l⟩ := e.vs id 0 hv
    by_cases he : v' = 0
    · subst he
      exact .m id blk bs (e.same id 0 blk bs hv hv' h).1 hv'
    · exact .m0 id v' _ rfl hv' (by omega)
  | m0 id v c h1 hv hl =>
    obtain ⟨v', hv', l⟩ := e.vs id v hv
    exact .m0 id v' c h1 hv' (by omega)
  | sm l blk es clock hz hb hl hk hv ihk ihv =>
    exact .sm l blk es clock (e.z _ hz) ((e.zsame wf hz).trans hb) hl ihk ihv
  | nf => exact .nf
  | f fn first cap cf cc hl1 hl2 h1 h2 ih1 ih2 => exact .f fn first cap cf cc hl1 hl2 ih1 ih2
  | agg cells cs hl h1 hv ih => exact .agg cells cs hl h1 ih
  | tup vs cs hl hv ih => exact .tup vs cs hl ih

/-! ### The abstract heap -/
inductive OR (C : Cx) (blk bs : Nat) : O → Prop
  | row (ver : Nat) (cells : List V) (cc : Array Value) (t : TypeId) (hb : C.w.heap[blk]? = some (.cells cc t (0, 0))) (hl : bs + cells.length ≤ cc.size)
      (h1 : ∀ c ∈ cc, one1 c = true) (hv : ∀ (j : Nat) (x : V) (c : Value), cells[j]? = some x → cc[bs + j]? = some c → VR C x c) : OR C blk bs (.row ver cells)
  | map (es : List (Nat × V × V)) (clock : Nat) (ces : Array MapEntry) (hb : C.w.heap[blk]? = some (.map ces clock)) (hl : ces.size = es.length)
      (hv : ∀ (j b : Nat) (k v : V) (e : MapEntry), es[j]? = some (b, k, v) → ces[j]? = some e → e.born = b ∧ VR C k e.key ∧ VR C v e.val) : OR C blk bs (.map es clock)
  | it (mid since : Nat) (seen : List Nat) (stepped mb : Nat) (h0 : bs = 0) (hm : VR C (.m mid) (.map (some mb)))
      (hb : C.w.heap[blk]? = some (.mapIter (some mb) since seen.toArray stepped)) : OR C blk bs (.it mid since seen stepped)
  | dead (ver : Nat) : OR C blk bs (.dead ver)

theorem OR.ext {C C' : Cx} (e : Ext C C') (wf : Wf C) {blk bs : Nat} (hh : C'.w.heap[blk]? = C.w.heap[blk]?) {o : O} (h : OR C blk bs o) : OR C' blk bs o := by
  cases h with
  | row ver cells cc t hb hl h1 hv => exact .row ver cells cc t (hh.trans hb) hl h1 (fun j x c a b => (hv j x c a b).ext e wf)
  | map es clock ces hb hl hv => exact .map es clock ces (hh.trans hb) hl (fun j b k v en a c => let ⟨x, y, z⟩ := hv j b k v en a c; ⟨x, y.ext e wf, z.ext e wf⟩)
  | it mid since seen stepped mb h0 hm hb => exact .it mid since seen stepped mb h0 (hm.ext e wf) (hh.trans hb)
  | dead ver => exact .dead ver

structure R (C : Cx) (σ : List O) : Prop where
  wf : Wf C
  len : σ.length = C.vs.length
  ver : ∀ (id : Nat) (o : O), σ[id]? = some o → C.vs[id]? = some o.ver
  obj : ∀ (id : Nat) (o : O) (blk bs : Nat), σ[id]? = some o → C.ρ[id]? = some (blk, bs) → OR C blk bs o

theorem R.blk {C : Cx} {σ : List O} (h : R C σ) {id : Nat} {o : O} (ho : σ[id]? = some o) : ∃ blk bs, C.ρ[id]? = some (blk, bs) ∧ blk < C.w.heap.size ∧ OR C blk bs o := by
  have hlt : id < σ.length := (List.getElem?_eq_some_iff.1 ho).1
  have hl : id < C.ρ.length := by have := h.wf.len; have := h.len; omega
  obtain ⟨⟨blk, bs⟩, hp⟩ : ∃ x, C.ρ[id]'hl = x := ⟨_, rfl⟩
  have hq : C.ρ[id]? = some (blk, bs) := by rw [List.getElem?_eq_getElem hl, hp]
  exact ⟨blk, bs, hq, h.wf.lt id blk bs hq, h.obj id o blk bs ho hq⟩

theorem heap_alloc_lt (w : World) (o : Obj) {b : Nat} (h : b < w.heap.size) : (w.alloc o).heap[b]? = w.heap[b]? := by
  show (w.heap.push o)[b]? = _
  rw [Array.getElem?_push, if_neg (by omega)]
theorem heap_alloc_eq (w : World) (o : Obj) : (w.alloc o).heap[w.heap.size]? = some o := by
  show (w.heap.push o)[w.heap.size]? = _
  simp

theorem get_snoc_lt {α : Type} {l : List α} {x : α} {i : Nat} (h : i < l.length) : (l ++ [x])[i]? = l[i]? := List.getElem?_append_left h
theorem get_snoc_cases {α : Type} {l : List α} {x y : α} {i : Nat} (h : (l ++ [x])[i]? = some y) : l[i]? = some y ∨ (i = l.length ∧ y = x) := by
  rcases Nat.lt_trichotomy i l.length with h1 | h1 | h1
  · exact .inl (by rwa [List.getElem?_append_left h1] at h)
  · subst h1; simp at h; exact .inr ⟨rfl, h.symm⟩
  · rw [List.getElem?_eq_none (by simp; omega)] at h; cases h
theorem get_mono_snoc {α : Type} {l : List α} {x y : α} {i : Nat} (h : l[i]? = some y) : (l ++ [x])[i]? = some y := by
  rw [List.getElem?_append_left (List.getElem?_eq_some_iff.1 h).1]; exact h

def Cx.alloc (C : Cx) (o : Obj) : Cx := { ρ := C.ρ ++ [(C.w.heap.size, 0)], vs := C.vs ++ [0], Z := C.Z, w := C.w.alloc o }
def Cx.allocZ (C : Cx) (o : Obj) : Cx := { C with Z := fun b => C.Z b ∨ b = C.w.heap.size, w := C.w.alloc o }
def Cx.world (C : Cx) (w : World) : Cx := { C with w := w }

theorem alloc_ext {C : Cx} (wf : Wf C) (o : Obj) : Ext C (C.alloc o) where
  os := rfl
  tape := rfl
  output := rfl
  size := by simp [Cx.alloc]
  frame := fun b hb _ => heap_alloc_lt _ _ hb
  z := fun b h => h
  nz := fun b h => .inl h
  nρ := fun i b p hi => by
    rcases get_snoc_cases hi with h | ⟨_, h⟩
    · exact .inl ⟨p, h⟩
    · cases h; exact .inr (Nat.le_refl _)
  vs := fun i v hv => ⟨v, get_mono_snoc hv, Nat.le_refl _⟩
  same := fun i v b p hv hv' hb => ⟨get_mono_snoc hb, fun cc t hc => ⟨cc, (heap_alloc_lt _ _ (wf.lt i b p hb)).trans hc, rfl⟩⟩

theorem alloc_wf {C : Cx} (wf : Wf C) (o : Obj) : Wf (C.alloc o) where
  len := by simp [Cx.alloc, wf.len]
  inj := fun i j b p q hi hj => by
    rcases get_snoc_cases hi with h | ⟨h, e1⟩ <;> rcases get_snoc_cases hj with k | ⟨k, e2⟩
    · exact wf.inj i j b p q h k
    · cases e2; exact absurd (wf.lt i _ _ h) (Nat.lt_irrefl _)
    · cases e1; exact absurd (wf.lt j _ _ k) (Nat.lt_irrefl _)
    · omega
  lt := fun i b p hi => by
    have : (C.alloc o).w.heap.size = C.w.heap.size + 1 := by simp [Cx.alloc]
    rcases get_snoc_cases hi with h | ⟨h, e⟩
    · have := wf.lt i b p h; omega
    · cases e; omega
  zlt := fun b hb => by
    have : (C.alloc o).w.heap.size = C.w.heap.size + 1 := by simp [Cx.alloc]
    have := wf.zlt b hb; omega
  zρ := fun i b p hi => by
    rcases get_snoc_cases hi with h | ⟨h, e⟩
    · exact wf.zρ i b p h
    · cases e; exact fun hz => absurd (wf.zlt _ hz) (Nat.lt_irrefl _)

theorem R.alloc {C : Cx} {σ : List O} (h : R C σ) (o : Obj) (ob : O) (hv : ob.ver = 0) (hOR : OR (C.alloc o) C.w.heap.size 0 ob) : R (C.alloc o) (σ ++ [ob]) where
  wf := alloc_wf h.wf o
  len := by simp [Cx.alloc, h.len]
  ver := fun id x hx => by
    rcases get_snoc_cases hx with hx | ⟨he, rfl⟩
    · exact get_mono_snoc (h.ver id x hx)
    · show (C.vs ++ [0])[id]? = _; rw [he, h.len, hv]; simp
  obj := fun id x blk bs hx hb => by
    have hlr : σ.length = C.ρ.length := h.len.trans h.wf.len.symm
    rcases get_snoc_cases hx with hx | ⟨hx, rfl⟩
    · have hlt := (List.getElem?_eq_some_iff.1 hx).1
      have hb' : C.ρ[id]? = some (blk, bs) := by
        rcases get_snoc_cases hb with k | ⟨k, _⟩
        · exact k
        · omega
      exact (h.obj id x blk bs hx hb').ext (alloc_ext h.wf o) h.wf (heap_alloc_lt _ _ (h.wf.lt id blk bs hb'))
    · have he : (blk, bs) = (C.w.heap.size, 0) := by
        rcases get_snoc_cases hb with k | ⟨_, k⟩
        · have := (List.getElem?_eq_some_iff.1 k).1; omega
        · exact k
      cases he; exact hOR

theorem allocZ_ext {C : Cx} (wf : Wf C) (o : Obj) : Ext C (C.allocZ o) where
  os := rfl
  tape := rfl
  output := rfl
  size := by simp [Cx.allocZ]
  frame := fun b hb _ => heap_alloc_lt _ _ hb
  z := fun b h => .inl h
  nz := fun b h => h.imp id (fun h => Nat.le_of_eq h.symm)
  nρ := fun i b p hi => .inl ⟨p, hi⟩
  vs := fun i v hv => ⟨v, hv, Nat.le_refl _⟩
  same := fun i v b p hv hv' hb => ⟨hb, fun cc t hc => ⟨cc, (heap_alloc_lt _ _ (wf.lt i b p hb)).trans hc, rfl⟩⟩

theorem R.allocZ {C : Cx} {σ : List O} (h : R C σ) (o : Obj) : R (C.allocZ o) σ where
  wf := {
    len := h.wf.len
    inj := h.wf.inj
    lt := fun i b p hi => by have := h.wf.lt i b p hi; simp [Cx.allocZ]; omega
    zlt := fun b hb => by
      rcases hb with hb | rfl
      · have := h.wf.zlt b hb; simp [Cx.allocZ]; omega
      · simp [Cx.allocZ]
    zρ := fun i b p hi hz => by
      rcases hz with hz | rfl
      · exact h.wf.zρ i b p hi hz
      · exact absurd (h.wf.lt i _ _ hi) (Nat.lt_irrefl _) }
  len := h.len
  ver := h.ver
  obj := fun id x blk bs hx hb => (h.obj id x blk bs hx hb).ext (allocZ_ext h.wf o) h.wf (heap_alloc_lt _ _ (h.wf.lt id blk bs hb))

/-- A world that turns the blocks of some set only (blocks of one id, or none). -/
theorem world_ext {C : Cx} (wf : Wf C) {w' : World} (h1 : w'.os = C.w.os) (h2 : w'.tape = C.w.tape) (h3 : w'.output = C.w.output) (h4 : C.w.heap.size ≤ w'.heap.size)
    (hf : ∀ b, b < C.w.heap.size → (∀ i p : Nat, C.ρ[i]? ≠ some (b, p)) → w'.heap[b]? = C.w.heap[b]?)
    (hs : ∀ (i b p : Nat), C.ρ[i]? = some (b, p) → ∀ cc t, C.w.heap[b]? = some (.cells cc t (0, 0)) → ∃ cc', w'.heap[b]? = some (.cells cc' t (0, 0)) ∧ cc'.size = cc.size) : Ext C (C.world w') where
  os := h1
  tape := h2
  output := h3
  size := h4
  frame := hf
  z := fun b h => h
  nz := fun b h => .inl h
  nρ := fun i b p hi => .inl ⟨p, hi⟩
  vs := fun i v hv => ⟨v, hv, Nat.le_refl _⟩
  same := fun i v b p hv hv' hb => ⟨hb, fun cc t hc => hs i b p hb cc t hc⟩

theorem world_wf {C : Cx} (wf : Wf C) {w' : World} (h4 : C.w.heap.size ≤ w'.heap.size) : Wf (C.world w') where
  len := wf.len
  inj := wf.inj
  lt := fun i b p hi => Nat.lt_of_lt_of_le (wf.lt i b p hi) h4
  zlt := fun b hb => Nat.lt_of_lt_of_le (wf.zlt b hb) h4
  zρ := wf.zρ

/-- Nothing that is spoken of turns (a draw; blocks outside). -/
theorem R.quiet {C : Cx} {σ : List O} (h : R C σ) {w' : World} (h1 : w'.os = C.w.os) (h2 : w'.tape = C.w.tape) (h3 : w'.output = C.w.output) (h4 : C.w.heap.size ≤ w'.heap.size)
    (hf : ∀ b, b < C.w.heap.size → w'.heap[b]? = C.w.heap[b]?) : R (C.world w') σ ∧ Ext C (C.world w') := by
  have e : Ext C (C.world w') := world_ext h.wf h1 h2 h3 h4 (fun b hb _ => hf b hb) (fun i b p hi cc t hc => ⟨cc, (hf b (h.wf.lt i b p hi)).trans hc, rfl⟩)
  exact ⟨⟨world_wf h.wf h4, h.len, h.ver, fun id x blk bs hx hb => (h.obj id x blk bs hx hb).ext e h.wf (hf blk (h.wf.lt id blk bs hb))⟩, e⟩

/-- One id's block is turned, its object with it; its version may go up (and its base then). -/
def Cx.turn (C : Cx) (id blk bs v : Nat) (w' : World) : Cx := { ρ := C.ρ.set id (blk, bs), vs := C.vs.set id v, Z := C.Z, w := w' }

theorem set_cases {α : Type} {l : List α} {x y : α} {i j : Nat} (h : (l.set i x)[j]? = some y) : (j = i ∧ y = x) ∨ (j ≠ i ∧ l[j]? = some y) := by
  by_cases hi : j = i
  · subst hi
    have hlt : j < (l.set j x).length := (List.getElem?_eq_some_iff.1 h).1
    rw [List.length_set] at hlt
    rw [List.getElem?_set_self hlt] at h; cases h; exact .inl ⟨rfl, rfl⟩
  · rw [List.getElem?_set_ne (fun hE => hi hE.symm)] at h; exact .inr ⟨hi, h⟩

theorem R.turn {C : Cx} {σ : List O} (h : R C σ) {id blk bs bs' : Nat} {o o' : O} (ho : σ[id]? = some o) (hρ : C.ρ[id]? = some (blk, bs)) (hver : o'.ver = o.ver ∧ bs' = bs ∨ o.ver < o'.ver) {w' : World}
    (h1 : w'.os = C.w.os) (h2 : w'.tape = C.w.tape) (h3 : w'.output = C.w.output) (h4 : C.w.heap.size ≤ w'.heap.size)
    (hf : ∀ b, b < C.w.heap.size → b ≠ blk → w'.heap[b]? = C.w.heap[b]?)
    (hc : ∀ cc t, C.w.heap[blk]? = some (.cells cc t (0, 0)) → ∃ cc', w'.heap[blk]? = some (.cells cc' t (0, 0)) ∧ cc'.size = cc.size)
    (hOR : Ext C (C.turn id blk bs' o'.ver w') → OR (C.turn id blk bs' o'.ver w') blk bs' o') : R (C.turn id blk bs' o'.ver w') (σ.set id o') ∧ Ext C (C.turn id blk bs' o'.ver w') := by
  have hlt : id < σ.length := (List.getElem?_eq_some_iff.1 ho).1
  have hltv : id < C.vs.length := by rw [← h.len]; exact hlt
  have hltρ : id < C.ρ.length := by rw [h.wf.len]; exact hltv
  have hv0 := h.ver id o ho
  have e : Ext C (C.turn id blk bs' o'.ver w') := {
    os := h1, tape := h2, output := h3, size := h4
    frame := fun b hb hn => hf b hb (fun hE => hn id bs (by rw [hE]; exact hρ))
    z := fun b hb => hb, nz := fun b hb => .inl hb
    nρ := fun i b p hb => by
      rcases set_cases hb with ⟨rfl, e⟩ | ⟨_, hb⟩
      · cases e; exact .inl ⟨bs, hρ⟩
      · exact .inl ⟨p, hb⟩
    vs := fun i v hv => by
      by_cases hi : i = id
      · subst hi
        refine ⟨o'.ver, List.getElem?_set_self hltv, ?_⟩
        rw [hv0] at hv
        have := Option.some.inj hv
        omega
      · exact ⟨v, by show (C.vs.set id o'.ver)[i]? = _; rw [List.getElem?_set_ne (fun hE => hi hE.symm)]; exact hv, Nat.le_refl _⟩
    same := fun i v b p hv hv' hb => by
      by_cases hi : i = id
      · subst hi
        have h5 : (C.vs.set i o'.ver)[i]? = some v := hv'
        rw [List.getElem?_set_self hltv] at h5
        rw [hv0] at hv
        have h6 := Option.some.inj h5
        have h7 := Option.some.inj hv
        rw [hρ] at hb
        cases hb
        have hbs : bs' = bs := by omega
        subst hbs
        exact ⟨List.getElem?_set_self hltρ, hc⟩
      · refine ⟨by show (C.ρ.set id _)[i]? = _; rw [List.getElem?_set_ne (fun hE => hi hE.symm)]; exact hb, fun cc t hcc => ⟨cc, (hf b (h.wf.lt i b p hb) (fun hE => ?_)).trans hcc, rfl⟩⟩
        subst hE
        exact hi (h.wf.inj i id b p bs hb hρ) }
  have wf' : Wf (C.turn id blk bs' o'.ver w') := {
    len := by simp [Cx.turn, h.wf.len]
    inj := fun i j b p q hi hj => by
      rcases set_cases hi with ⟨e1, e2⟩ | ⟨ni, hi⟩ <;> rcases set_cases hj with ⟨e3, e4⟩ | ⟨nj, hj⟩
      · rw [e1, e3]
      · cases e2; rw [e1]; exact h.wf.inj id j blk bs q hρ hj
      · cases e4; rw [e3]; exact h.wf.inj i id blk p bs hi hρ
      · exact h.wf.inj i j b p q hi hj
    lt := fun i b p hi => by
      rcases set_cases hi with ⟨_, e⟩ | ⟨_, hi⟩
      · cases e; exact Nat.lt_of_lt_of_le (h.wf.lt id blk bs hρ) h4
      · exact Nat.lt_of_lt_of_le (h.wf.lt i b p hi) h4
    zlt := fun b hb => Nat.lt_of_lt_of_le (h.wf.zlt b hb) h4
    zρ := fun i b p hi hz => by
      rcases set_cases hi with ⟨_, e⟩ | ⟨_, hi⟩
      · cases e; exact h.wf.zρ id blk bs hρ hz
      · exact h.wf.zρ i b p hi hz }
  refine ⟨⟨wf', by simp [h.len, Cx.turn], fun i x hx => ?_, fun i x b p hx hb => ?_⟩, e⟩
  · rcases set_cases hx with ⟨rfl, rfl⟩ | ⟨ni, hx⟩
    · exact List.getElem?_set_self hltv
    · show (C.vs.set id o'.ver)[i]? = _
      rw [List.getElem?_set_ne (fun hE => ni hE.symm)]; exact h.ver i x hx
  · rcases set_cases hx with ⟨rfl, rfl⟩ | ⟨ni, hx⟩
    · rcases set_cases hb with ⟨_, e2⟩ | ⟨n, _⟩
      · cases e2; exact hOR e
      · exact absurd rfl n
    · rcases set_cases hb with ⟨n, _⟩ | ⟨_, hb⟩
      · exact absurd n ni
      · have hb' : C.ρ[i]? = some (b, p) := hb
        exact (h.obj i x b p hx hb').ext e h.wf (hf b (h.wf.lt i b p hb') (fun hE => ni (h.wf.inj i id blk p bs (hE ▸ hb') hρ)))

/-- A row moves to a new block, its version goes up. -/
theorem R.move {C : Cx} {σ : List O} (h : R C σ) {id : Nat} {o o' : O} (ho : σ[id]? = some o) (hver : o.ver < o'.ver) {w' : World}
    (h1 : w'.os = C.w.os) (h2 : w'.tape = C.w.tape) (h3 : w'.output = C.w.output) (h4 : C.w.heap.size < w'.heap.size)
    (hf : ∀ b, b < C.w.heap.size → w'.heap[b]? = C.w.heap[b]?)
    (hOR : Ext C (C.turn id C.w.heap.size 0 o'.ver w') → OR (C.turn id C.w.heap.size 0 o'.ver w') C.w.heap.size 0 o') :
    R (C.turn id C.w.heap.size 0 o'.ver w') (σ.set id o') ∧ Ext C (C.turn id C.w.heap.size 0 o'.ver w') := by
  have hlt : id < σ.length := (List.getElem?_eq_some_iff.1 ho).1
  have hltv : id < C.vs.length := by rw [← h.len]; exact hlt
  have hltρ : id < C.ρ.length := by rw [h.wf.len]; exact hltv
  have hv0 := h.ver id o ho
  have e : Ext C (C.turn id C.w.heap.size 0 o'.ver w') := {
    os := h1, tape := h2, output := h3, size := Nat.le_of_lt h4, frame := fun b hb _ => hf b hb, z := fun b hb => hb, nz := fun b hb => .inl hb
    nρ := fun i b p hb => by
      rcases set_cases hb with ⟨_, e⟩ | ⟨_, hb⟩
      · cases e; exact .inr (Nat.le_refl _)
      · exact .inl ⟨p, hb⟩
    vs := fun i v hv => by
      by_cases hi : i = id
      · subst hi
        refine ⟨o'.ver, List.getElem?_set_self hltv, ?_⟩
        rw [hv0] at hv
        have := Option.some.inj hv
        omega
      · exact ⟨v, by show (C.vs.set id o'.ver)[i]? = _; rw [List.getElem?_set_ne (fun hE => hi hE.symm)]; exact hv, Nat.le_refl _⟩
    same := fun i v b p hv hv' hb => by
      by_cases hi : i = id
      · subst hi
        have h5 : (C.vs.set i o'.ver)[i]? = some v := hv'
        rw [List.getElem?_set_self hltv] at h5
        rw [hv0] at hv
        have h6 := Option.some.inj h5
        have h7 := Option.some.inj hv
        omega
      · exact ⟨by show (C.ρ.set id _)[i]? = _; rw [List.getElem?_set_ne (fun hE => hi hE.symm)]; exact hb, fun cc t hc => ⟨cc, (hf b (h.wf.lt i b p hb)).trans hc, rfl⟩⟩ }
  have wf' : Wf (C.turn id C.w.heap.size 0 o'.ver w') := {
    len := by simp [Cx.turn, h.wf.len]
    inj := fun i j b p q hi hj => by
      rcases set_cases hi with ⟨e1, e2⟩ | ⟨ni, hi⟩ <;> rcases set_cases hj with ⟨e3, e4⟩ | ⟨nj, hj⟩
      · rw [e1, e3]
      · cases e2; have := h.wf.lt j _ q hj; omega
      · cases e4; have := h.wf.lt i _ p hi; omega
      · exact h.wf.inj i j b p q hi hj
    lt := fun i b p hi => by
      rcases set_cases hi with ⟨_, e⟩ | ⟨_, hi⟩
      · cases e; exact h4
      · exact Nat.lt_trans (h.wf.lt i b p hi) h4
    zlt := fun b hb => Nat.lt_trans (h.wf.zlt b hb) h4
    zρ := fun i b p hi hz => by
      rcases set_cases hi with ⟨_, e⟩ | ⟨_, hi⟩
      · cases e; exact absurd (h.wf.zlt _ hz) (Nat.lt_irrefl _)
      · exact h.wf.zρ i b p hi hz }
  refine ⟨⟨wf', by simp [h.len, Cx.turn], fun i x hx => ?_, fun i x b p hx hb => ?_⟩, e⟩
  · rcases set_cases hx with ⟨rfl, rfl⟩ | ⟨ni, hx⟩
    · exact List.getElem?_set_self hltv
    · show (C.vs.set id o'.ver)[i]? = _
      rw [List.getElem?_set_ne (fun hE => ni hE.symm)]; exact h.ver i x hx
  · rcases set_cases hx with ⟨rfl, rfl⟩ | ⟨ni, hx⟩
    · rcases set_cases hb with ⟨_, e2⟩ | ⟨n, _⟩
      · cases e2; exact hOR e
      · exact absurd rfl n
    · rcases set_cases hb with ⟨n, _⟩ | ⟨_, hb⟩
      · exact absurd n ni
      · exact (h.obj i x b p hx hb).ext e h.wf (hf b (h.wf.lt i b p hb))

end Go.Ab
