import Derived.RangeFuncRecord
import Derived.WalkKit
import Derived.OrdersIn
import Derived.Below
import Derived.RangeFuncCalls
/- Part 1 of what the theorem in TC rests on: an abstract layer over the calculus, contracts of the functions of the program, and plain facts. -/
set_option linter.unusedVariables false
set_option linter.unusedSimpArgs false
set_option linter.constructorNameAsVariable false
set_option maxHeartbeats 4000000
set_option maxRecDepth 100000
section
section
namespace Go.Ab
open Go
inductive V where
 | u
 | b (x : Bool)
 | i (k : IntKind) (n : Int)
 | str (s : ByteArray)
 | np
 | p (id ver off : Nat)
 | sp (cells : List V) (off : Nat)
 | s (id ver off len es : Nat)
 | ss (cells : List V) (len : Nat) (full : Bool)
 | nm
 | m (id : Nat)
 | sm (es : List (V × V))
 | nf
 | f (fn : Fn) (first cap : List V)
 | agg (cells : List V)
 | tup (vs : List V)
 deriving Inhabited
inductive O where
 | row (ver : Nat) (cells : List V)
 | map (es : List (Nat × V × V)) (clock : Nat)
 | it (mid since : Nat) (seen : List Nat) (stepped : Nat)
 | dead (ver : Nat)
 deriving Inhabited
def O.ver : O → Nat
 | .row v _ => v
 | .dead v => v
 | _ => 0
abbrev one1 (v : Value) : Bool := v.oneCell'
structure Cx where
 ρ : List (Nat × Nat)
 vs : List Nat
 Z : Nat → Prop
 w : World
inductive VR (C : Cx) : V → Value → Prop
 | u (c : Value) : VR C .u c
 | b (x : Bool) : VR C (.b x) (.bool x)
 | i (k : IntKind) (n : Int) : VR C (.i k n) (.int k n)
 | str (s : ByteArray) : VR C (.str s) (.string s)
 | np : VR C .np (.pointer none)
 | p (id ver off blk bs : Nat) (h : C.ρ[id]? = some (blk, bs)) (hv : C.vs[id]? = some ver) : VR C (.p id ver off) (.pointer (some ⟨blk, bs + off, none⟩))
 | p0 (id ver off v : Nat) (c : Value) (h1 : one1 c = true) (hv : C.vs[id]? = some v) (hl : ver < v) : VR C (.p id ver off) c
 | sp (cells : List V) (off blk base : Nat) (cs : List Value) (hz : C.Z blk) (hl : cs.length = cells.length) (h1 : ∀ c ∈ cs, one1 c = true)
   (hc : ∀ (j : Nat) (c : Value), cs[j]? = some c → C.w.cell? ⟨blk, base + j, none⟩ = some c)
   (hv : ∀ (j : Nat) (x : V) (c : Value), cells[j]? = some x → cs[j]? = some c → VR C x c) : VR C (.sp cells off) (.pointer (some ⟨blk, base + off, none⟩))
 | s (id ver off len es blk bs at_ cap : Nat) (cc : Array Value) (t : TypeId) (h : C.ρ[id]? = some (blk, bs)) (hv : C.vs[id]? = some ver) (hlc : len ≤ cap)
   (hb : C.w.heap[blk]? = some (.cells cc t (0, 0))) (hs : bs + off + cap * es ≤ cc.size) (ha : cap ≠ 0 → at_ = bs + off) :
   VR C (.s id ver off len es) (.slice (some ⟨blk, at_, none⟩) len cap)
 | s0 (id ver off len es v : Nat) (c : Value) (h1 : one1 c = true) (hv : C.vs[id]? = some v) (hl : ver < v) : VR C (.s id ver off len es) c
 | ss0 (a : Option Addr) (cap : Nat) : VR C (.ss [] 0 false) (.slice a 0 cap)
 | ssn (a : Option Addr) : VR C (.ss [] 0 true) (.slice a 0 0)
 | ss (cells : List V) (len : Nat) (full : Bool) (blk base cap : Nat) (cs : List Value) (hz : C.Z blk) (hl : cs.length = cells.length) (h1 : ∀ c ∈ cs, one1 c = true)
   (hc : ∀ (j : Nat) (c : Value), cs[j]? = some c → C.w.cell? ⟨blk, base + j, none⟩ = some c)
   (hv : ∀ (j : Nat) (x : V) (c : Value), cells[j]? = some x → cs[j]? = some c → VR C x c) (hlc : len ≤ cap) (hf : full = true → cap = len) :
   VR C (.ss cells len full) (.slice (some ⟨blk, base, none⟩) len cap)
 | nm : VR C .nm (.map none)
 | m (id blk bs : Nat) (h : C.ρ[id]? = some (blk, bs)) (hv : C.vs[id]? = some 0) : VR C (.m id) (.map (some blk))
 | m0 (id v : Nat) (c : Value) (h1 : one1 c = true) (hv : C.vs[id]? = some v) (hl : 0 < v) : VR C (.m id) c
 | sm (l : List (V × V)) (blk : Nat) (es : Array MapEntry) (clock : Nat) (hz : C.Z blk) (hb : C.w.heap[blk]? = some (.map es clock)) (hl : es.size = l.length)
   (hk : ∀ (j : Nat) (k v : V) (e : MapEntry), l[j]? = some (k, v) → es[j]? = some e → VR C k e.key)
   (hv : ∀ (j : Nat) (k v : V) (e : MapEntry), l[j]? = some (k, v) → es[j]? = some e → VR C v e.val) : VR C (.sm l) (.map (some blk))
 | nf : VR C .nf .nilFunc
 | f (fn : Fn) (first cap : List V) (cf cc : Array Value) (hl1 : cf.size = first.length) (hl2 : cc.size = cap.length)
   (h1 : ∀ (j : Nat) (x : V) (c : Value), first[j]? = some x → cf[j]? = some c → VR C x c)
   (h2 : ∀ (j : Nat) (x : V) (c : Value), cap[j]? = some x → cc[j]? = some c → VR C x c) : VR C (.f fn first cap) (.func fn cf cc)
 | agg (cells : List V) (cs : Array Value) (hl : cs.size = cells.length) (h1 : ∀ c ∈ cs, one1 c = true)
   (hv : ∀ (j : Nat) (x : V) (c : Value), cells[j]? = some x → cs[j]? = some c → VR C x c) : VR C (.agg cells) (.agg cs)
 | tup (vs : List V) (cs : Array Value) (hl : cs.size = vs.length)
   (hv : ∀ (j : Nat) (x : V) (c : Value), vs[j]? = some x → cs[j]? = some c → VR C x c) : VR C (.tup vs) (.tuple cs)
def VRl (C : Cx) (xs : List V) (cs : List Value) : Prop := cs.length = xs.length ∧ ∀ (j : Nat) (x : V) (c : Value), xs[j]? = some x → cs[j]? = some c → VR C x c
structure Wf (C : Cx) : Prop where
 len : C.ρ.length = C.vs.length
 inj : ∀ (i j b p q : Nat), C.ρ[i]? = some (b, p) → C.ρ[j]? = some (b, q) → i = j
 lt : ∀ (i b p : Nat), C.ρ[i]? = some (b, p) → b < C.w.heap.size
 zlt : ∀ b, C.Z b → b < C.w.heap.size
 zρ : ∀ (i b p : Nat), C.ρ[i]? = some (b, p) → ¬ C.Z b
structure Ext (C C' : Cx) : Prop where
 os : C'.w.os = C.w.os
 tape : C'.w.tape = C.w.tape
 output : C'.w.output = C.w.output
 size : C.w.heap.size ≤ C'.w.heap.size
 frame : ∀ b, b < C.w.heap.size → (∀ i p : Nat, C.ρ[i]? ≠ some (b, p)) → C'.w.heap[b]? = C.w.heap[b]?
 z : ∀ b, C.Z b → C'.Z b
 nz : ∀ b, C'.Z b → C.Z b ∨ C.w.heap.size ≤ b
 nρ : ∀ (i b p : Nat), C'.ρ[i]? = some (b, p) → (∃ q, C.ρ[i]? = some (b, q)) ∨ C.w.heap.size ≤ b
 vs : ∀ (i v : Nat), C.vs[i]? = some v → ∃ v', C'.vs[i]? = some v' ∧ v ≤ v'
 same : ∀ (i v b p : Nat), C.vs[i]? = some v → C'.vs[i]? = some v → C.ρ[i]? = some (b, p) → C'.ρ[i]? = some (b, p) ∧
  ∀ cc t, C.w.heap[b]? = some (.cells cc t (0, 0)) → ∃ cc', C'.w.heap[b]? = some (.cells cc' t (0, 0)) ∧ cc'.size = cc.size
theorem Ext.refl (C : Cx) : Ext C C :=
 ⟨rfl, rfl, rfl, Nat.le_refl _, fun _ _ _ => rfl, fun _ h => h, fun _ h => .inl h, fun _ _ p h => .inl ⟨p, h⟩, fun _ v h => ⟨v, h, Nat.le_refl _⟩,
  fun _ _ _ _ _ _ h => ⟨h, fun cc t hb => ⟨cc, hb, rfl⟩⟩⟩
theorem Ext.trans {A B D : Cx} (h : Ext A B) (k : Ext B D) : Ext A D where
 os := k.os.trans h.os
 tape := k.tape.trans h.tape
 output := k.output.trans h.output
 size := Nat.le_trans h.size k.size
 frame := fun b hb hn => by
  have h1 := h.frame b hb hn
  refine (k.frame b (Nat.lt_of_lt_of_le hb h.size) (fun i p hi => ?_)).trans h1
  rcases h.nρ i b p hi with ⟨q, h2⟩ | h2
  ·exact hn i q h2
  ·omega
 z := fun b hb => k.z b (h.z b hb)
 nz := fun b hb => by
  rcases k.nz b hb with h1 | h1
  ·exact h.nz b h1
  ·exact .inr (Nat.le_trans h.size h1)
 nρ := fun i b p hi => by
  rcases k.nρ i b p hi with ⟨q, h1⟩ | h1
  ·exact h.nρ i b q h1
  ·exact .inr (Nat.le_trans h.size h1)
 vs := fun i v hv => by
  obtain ⟨v1, h1, l1⟩ := h.vs i v hv
  obtain ⟨v2, h2, l2⟩ := k.vs i v1 h1
  exact ⟨v2, h2, Nat.le_trans l1 l2⟩
 same := fun i v b p hv hv' hb => by
  obtain ⟨v1, h1, l1⟩ := h.vs i v hv
  obtain ⟨v2, h2, l2⟩ := k.vs i v1 h1
  rw [hv'] at h2
  cases h2
  obtain rfl : v1 = v := by omega
  obtain ⟨p1, q1⟩ := h.same i v1 b p hv h1 hb
  obtain ⟨p2, q2⟩ := k.same i v1 b p h1 hv' p1
  refine ⟨p2, fun cc t hc => ?_⟩
  obtain ⟨cc1, hc1, e1⟩ := q1 cc t hc
  obtain ⟨cc2, hc2, e2⟩ := q2 cc1 t hc1
  exact ⟨cc2, hc2, e2.trans e1⟩
theorem cell?_of_heap {w w' : World} {a : Addr} (h : w'.heap[a.block]? = w.heap[a.block]?) : w'.cell? a = w.cell? a := World.cell?_of_block (w := w) h
theorem Ext.zsame {C C' : Cx} (e : Ext C C') (wf : Wf C) {b : Nat} (hz : C.Z b) : C'.w.heap[b]? = C.w.heap[b]? :=
 e.frame b (wf.zlt b hz) (fun i p hi => wf.zρ i b p hi hz)
theorem VR.ext {C C' : Cx} (e : Ext C C') (wf : Wf C) {x : V} {c : Value} (h : VR C x c) : VR C' x c := by
 induction h with
 | u c => exact .u c
 | b x => exact .b x
 | i k n => exact .i k n
 | str s => exact .str s
 | np => exact .np
 | p id ver off blk bs h hv =>
  obtain ⟨v', hv', l⟩ := e.vs id ver hv
  by_cases he : v' = ver
  ·subst he
   exact .p id v' off blk bs (e.same id v' blk bs hv hv' h).1 hv'
  ·exact .p0 id ver off v' _ rfl hv' (by omega)
 | p0 id ver off v c h1 hv hl =>
  obtain ⟨v', hv', l⟩ := e.vs id v hv
  exact .p0 id ver off v' c h1 hv' (by omega)
 | sp cells off blk base cs hz hl h1 hc hv ih =>
  refine .sp cells off blk base cs (e.z _ hz) hl h1 (fun j c hj => ?_) (fun j x c hx hc' => ih j x c hx hc')
  rw [cell?_of_heap (w := C.w) (e.zsame wf hz)]
  exact hc j c hj
 | s id ver off len es blk bs at_ cap cc t h hv hlc hb hs ha =>
  obtain ⟨v', hv', l⟩ := e.vs id ver hv
  by_cases he : v' = ver
  ·subst he
   obtain ⟨p1, q1⟩ := e.same id v' blk bs hv hv' h
   obtain ⟨cc', hc', e'⟩ := q1 cc t hb
   exact .s id v' off len es blk bs at_ cap cc' t p1 hv' hlc hc' (by omega) ha
  ·exact .s0 id ver off len es v' _ rfl hv' (by omega)
 | s0 id ver off len es v c h1 hv hl =>
  obtain ⟨v', hv', l⟩ := e.vs id v hv
  exact .s0 id ver off len es v' c h1 hv' (by omega)
 | ss0 a cap => exact .ss0 a cap
 | ssn a => exact .ssn a
 | ss cells len full blk base cap cs hz hl h1 hc hv hlc hf ih =>
  refine .ss cells len full blk base cap cs (e.z _ hz) hl h1 (fun j c hj => ?_) (fun j x c hx hc' => ih j x c hx hc') hlc hf
  rw [cell?_of_heap (w := C.w) (e.zsame wf hz)]
  exact hc j c hj
 | nm => exact .nm
 | m id blk bs h hv =>
  obtain ⟨v', hv', l⟩ := e.vs id 0 hv
  by_cases he : v' = 0
  ·subst he
   exact .m id blk bs (e.same id 0 blk bs hv hv' h).1 hv'
  ·exact .m0 id v' _ rfl hv' (by omega)
 | m0 id v c h1 hv hl =>
  obtain ⟨v', hv', l⟩ := e.vs id v hv
  exact .m0 id v' c h1 hv' (by omega)
 | sm l blk es clock hz hb hl hk hv ihk ihv =>
  exact .sm l blk es clock (e.z _ hz) ((e.zsame wf hz).trans hb) hl ihk ihv
 | nf => exact .nf
 | f fn first cap cf cc hl1 hl2 h1 h2 ih1 ih2 => exact .f fn first cap cf cc hl1 hl2 ih1 ih2
 | agg cells cs hl h1 hv ih => exact .agg cells cs hl h1 ih
 | tup vs cs hl hv ih => exact .tup vs cs hl ih
inductive OR (C : Cx) (blk bs : Nat) : O → Prop
 | row (ver : Nat) (cells : List V) (cc : Array Value) (t : TypeId) (hb : C.w.heap[blk]? = some (.cells cc t (0, 0))) (hl : bs + cells.length ≤ cc.size)
   (h1 : ∀ c ∈ cc, one1 c = true) (hv : ∀ (j : Nat) (x : V) (c : Value), cells[j]? = some x → cc[bs + j]? = some c → VR C x c) : OR C blk bs (.row ver cells)
 | map (es : List (Nat × V × V)) (clock : Nat) (ces : Array MapEntry) (hb : C.w.heap[blk]? = some (.map ces clock)) (hl : ces.size = es.length)
   (hv : ∀ (j b : Nat) (k v : V) (e : MapEntry), es[j]? = some (b, k, v) → ces[j]? = some e → e.born = b ∧ VR C k e.key ∧ VR C v e.val) : OR C blk bs (.map es clock)
 | it (mid since : Nat) (seen : List Nat) (stepped mb : Nat) (h0 : bs = 0) (hm : VR C (.m mid) (.map (some mb)))
   (hb : C.w.heap[blk]? = some (.mapIter (some mb) since seen.toArray stepped)) : OR C blk bs (.it mid since seen stepped)
 | dead (ver : Nat) : OR C blk bs (.dead ver)
theorem OR.ext {C C' : Cx} (e : Ext C C') (wf : Wf C) {blk bs : Nat} (hh : C'.w.heap[blk]? = C.w.heap[blk]?) {o : O} (h : OR C blk bs o) : OR C' blk bs o := by
 cases h with
 | row ver cells cc t hb hl h1 hv => exact .row ver cells cc t (hh.trans hb) hl h1 (fun j x c a b => (hv j x c a b).ext e wf)
 | map es clock ces hb hl hv => exact .map es clock ces (hh.trans hb) hl (fun j b k v en a c => let ⟨x, y, z⟩ := hv j b k v en a c; ⟨x, y.ext e wf, z.ext e wf⟩)
 | it mid since seen stepped mb h0 hm hb => exact .it mid since seen stepped mb h0 (hm.ext e wf) (hh.trans hb)
 | dead ver => exact .dead ver
structure R (C : Cx) (σ : List O) : Prop where
 wf : Wf C
 len : σ.length = C.vs.length
 ver : ∀ (id : Nat) (o : O), σ[id]? = some o → C.vs[id]? = some o.ver
 obj : ∀ (id : Nat) (o : O) (blk bs : Nat), σ[id]? = some o → C.ρ[id]? = some (blk, bs) → OR C blk bs o
theorem R.blk {C : Cx} {σ : List O} (h : R C σ) {id : Nat} {o : O} (ho : σ[id]? = some o) : ∃ blk bs, C.ρ[id]? = some (blk, bs) ∧ blk < C.w.heap.size ∧ OR C blk bs o := by
 have hlt : id < σ.length := (List.getElem?_eq_some_iff.1 ho).1
 have hl : id < C.ρ.length := by have := h.wf.len; have := h.len; omega
 obtain ⟨⟨blk, bs⟩, hp⟩ : ∃ x, C.ρ[id]'hl = x := ⟨_, rfl⟩
 have hq : C.ρ[id]? = some (blk, bs) := by rw [List.getElem?_eq_getElem hl, hp]
 exact ⟨blk, bs, hq, h.wf.lt id blk bs hq, h.obj id o blk bs ho hq⟩
theorem heap_alloc_lt (w : World) (o : Obj) {b : Nat} (h : b < w.heap.size) : (w.alloc o).heap[b]? = w.heap[b]? := by
 show (w.heap.push o)[b]? = _
 rw [Array.getElem?_push, if_neg (by omega)]
theorem heap_alloc_eq (w : World) (o : Obj) : (w.alloc o).heap[w.heap.size]? = some o := by
 show (w.heap.push o)[w.heap.size]? = _
 simp
theorem get_snoc_cases {α : Type} {l : List α} {x y : α} {i : Nat} (h : (l ++ [x])[i]? = some y) : l[i]? = some y ∨ (i = l.length ∧ y = x) := by
 rcases Nat.lt_trichotomy i l.length with h1 | h1 | h1
 ·exact .inl (by rwa [List.getElem?_append_left h1] at h)
 ·subst h1; simp at h; exact .inr ⟨rfl, h.symm⟩
 ·rw [List.getElem?_eq_none (by simp; omega)] at h; cases h
theorem get_mono_snoc {α : Type} {l : List α} {x y : α} {i : Nat} (h : l[i]? = some y) : (l ++ [x])[i]? = some y := by
 rw [List.getElem?_append_left (List.getElem?_eq_some_iff.1 h).1]; exact h
def Cx.alloc (C : Cx) (o : Obj) : Cx := { ρ := C.ρ ++ [(C.w.heap.size, 0)], vs := C.vs ++ [0], Z := C.Z, w := C.w.alloc o }
def Cx.allocZ (C : Cx) (o : Obj) : Cx := { C with Z := fun b => C.Z b ∨ b = C.w.heap.size, w := C.w.alloc o }
def Cx.world (C : Cx) (w : World) : Cx := { C with w := w }
theorem alloc_ext {C : Cx} (wf : Wf C) (o : Obj) : Ext C (C.alloc o) where
 os := rfl
 tape := rfl
 output := rfl
 size := by simp [Cx.alloc]
 frame := fun b hb _ => heap_alloc_lt _ _ hb
 z := fun b h => h
 nz := fun b h => .inl h
 nρ := fun i b p hi => by
  rcases get_snoc_cases hi with h | ⟨_, h⟩
  ·exact .inl ⟨p, h⟩
  ·cases h; exact .inr (Nat.le_refl _)
 vs := fun i v hv => ⟨v, get_mono_snoc hv, Nat.le_refl _⟩
 same := fun i v b p hv hv' hb => ⟨get_mono_snoc hb, fun cc t hc => ⟨cc, (heap_alloc_lt _ _ (wf.lt i b p hb)).trans hc, rfl⟩⟩
theorem alloc_wf {C : Cx} (wf : Wf C) (o : Obj) : Wf (C.alloc o) where
 len := by simp [Cx.alloc, wf.len]
 inj := fun i j b p q hi hj => by
  rcases get_snoc_cases hi with h | ⟨h, e1⟩ <;> rcases get_snoc_cases hj with k | ⟨k, e2⟩
  ·exact wf.inj i j b p q h k
  ·cases e2; exact absurd (wf.lt i _ _ h) (Nat.lt_irrefl _)
  ·cases e1; exact absurd (wf.lt j _ _ k) (Nat.lt_irrefl _)
  ·omega
 lt := fun i b p hi => by
  have : (C.alloc o).w.heap.size = C.w.heap.size + 1 := by simp [Cx.alloc]
  rcases get_snoc_cases hi with h | ⟨h, e⟩
  ·have := wf.lt i b p h; omega
  ·cases e; omega
 zlt := fun b hb => by
  have : (C.alloc o).w.heap.size = C.w.heap.size + 1 := by simp [Cx.alloc]
  have := wf.zlt b hb; omega
 zρ := fun i b p hi => by
  rcases get_snoc_cases hi with h | ⟨h, e⟩
  ·exact wf.zρ i b p h
  ·cases e; exact fun hz => absurd (wf.zlt _ hz) (Nat.lt_irrefl _)
theorem R.alloc {C : Cx} {σ : List O} (h : R C σ) (o : Obj) (ob : O) (hv : ob.ver = 0) (hOR : OR (C.alloc o) C.w.heap.size 0 ob) : R (C.alloc o) (σ ++ [ob]) where
 wf := alloc_wf h.wf o
 len := by simp [Cx.alloc, h.len]
 ver := fun id x hx => by
  rcases get_snoc_cases hx with hx | ⟨he, rfl⟩
  ·exact get_mono_snoc (h.ver id x hx)
  ·show (C.vs ++ [0])[id]? = _; rw [he, h.len, hv]; simp
 obj := fun id x blk bs hx hb => by
  have hlr : σ.length = C.ρ.length := h.len.trans h.wf.len.symm
  rcases get_snoc_cases hx with hx | ⟨hx, rfl⟩
  ·have hlt := (List.getElem?_eq_some_iff.1 hx).1
   have hb' : C.ρ[id]? = some (blk, bs) := by
    rcases get_snoc_cases hb with k | ⟨k, _⟩
    ·exact k
    ·omega
   exact (h.obj id x blk bs hx hb').ext (alloc_ext h.wf o) h.wf (heap_alloc_lt _ _ (h.wf.lt id blk bs hb'))
  ·have he : (blk, bs) = (C.w.heap.size, 0) := by
    rcases get_snoc_cases hb with k | ⟨_, k⟩
    ·have := (List.getElem?_eq_some_iff.1 k).1; omega
    ·exact k
   cases he; exact hOR
theorem allocZ_ext {C : Cx} (wf : Wf C) (o : Obj) : Ext C (C.allocZ o) where
 os := rfl
 tape := rfl
 output := rfl
 size := by simp [Cx.allocZ]
 frame := fun b hb _ => heap_alloc_lt _ _ hb
 z := fun b h => .inl h
 nz := fun b h => h.imp id (fun h => Nat.le_of_eq h.symm)
 nρ := fun i b p hi => .inl ⟨p, hi⟩
 vs := fun i v hv => ⟨v, hv, Nat.le_refl _⟩
 same := fun i v b p hv hv' hb => ⟨hb, fun cc t hc => ⟨cc, (heap_alloc_lt _ _ (wf.lt i b p hb)).trans hc, rfl⟩⟩
theorem R.allocZ {C : Cx} {σ : List O} (h : R C σ) (o : Obj) : R (C.allocZ o) σ where
 wf := {
  len := h.wf.len
  inj := h.wf.inj
  lt := fun i b p hi => by have := h.wf.lt i b p hi; simp [Cx.allocZ]; omega
  zlt := fun b hb => by
   rcases hb with hb | rfl
   ·have := h.wf.zlt b hb; simp [Cx.allocZ]; omega
   ·simp [Cx.allocZ]
  zρ := fun i b p hi hz => by
   rcases hz with hz | rfl
   ·exact h.wf.zρ i b p hi hz
   ·exact absurd (h.wf.lt i _ _ hi) (Nat.lt_irrefl _) }
 len := h.len
 ver := h.ver
 obj := fun id x blk bs hx hb => (h.obj id x blk bs hx hb).ext (allocZ_ext h.wf o) h.wf (heap_alloc_lt _ _ (h.wf.lt id blk bs hb))
theorem world_ext {C : Cx} (wf : Wf C) {w' : World} (h1 : w'.os = C.w.os) (h2 : w'.tape = C.w.tape) (h3 : w'.output = C.w.output) (h4 : C.w.heap.size ≤ w'.heap.size)
  (hf : ∀ b, b < C.w.heap.size → (∀ i p : Nat, C.ρ[i]? ≠ some (b, p)) → w'.heap[b]? = C.w.heap[b]?)
  (hs : ∀ (i b p : Nat), C.ρ[i]? = some (b, p) → ∀ cc t, C.w.heap[b]? = some (.cells cc t (0, 0)) → ∃ cc', w'.heap[b]? = some (.cells cc' t (0, 0)) ∧ cc'.size = cc.size) : Ext C (C.world w') where
 os := h1
 tape := h2
 output := h3
 size := h4
 frame := hf
 z := fun b h => h
 nz := fun b h => .inl h
 nρ := fun i b p hi => .inl ⟨p, hi⟩
 vs := fun i v hv => ⟨v, hv, Nat.le_refl _⟩
 same := fun i v b p hv hv' hb => ⟨hb, fun cc t hc => hs i b p hb cc t hc⟩
theorem world_wf {C : Cx} (wf : Wf C) {w' : World} (h4 : C.w.heap.size ≤ w'.heap.size) : Wf (C.world w') where
 len := wf.len
 inj := wf.inj
 lt := fun i b p hi => Nat.lt_of_lt_of_le (wf.lt i b p hi) h4
 zlt := fun b hb => Nat.lt_of_lt_of_le (wf.zlt b hb) h4
 zρ := wf.zρ
theorem R.quiet {C : Cx} {σ : List O} (h : R C σ) {w' : World} (h1 : w'.os = C.w.os) (h2 : w'.tape = C.w.tape) (h3 : w'.output = C.w.output) (h4 : C.w.heap.size ≤ w'.heap.size)
  (hf : ∀ b, b < C.w.heap.size → w'.heap[b]? = C.w.heap[b]?) : R (C.world w') σ ∧ Ext C (C.world w') := by
 have e : Ext C (C.world w') := world_ext h.wf h1 h2 h3 h4 (fun b hb _ => hf b hb) (fun i b p hi cc t hc => ⟨cc, (hf b (h.wf.lt i b p hi)).trans hc, rfl⟩)
 exact ⟨⟨world_wf h.wf h4, h.len, h.ver, fun id x blk bs hx hb => (h.obj id x blk bs hx hb).ext e h.wf (hf blk (h.wf.lt id blk bs hb))⟩, e⟩
def Cx.turn (C : Cx) (id blk bs v : Nat) (w' : World) : Cx := { ρ := C.ρ.set id (blk, bs), vs := C.vs.set id v, Z := C.Z, w := w' }
theorem set_cases {α : Type} {l : List α} {x y : α} {i j : Nat} (h : (l.set i x)[j]? = some y) : (j = i ∧ y = x) ∨ (j ≠ i ∧ l[j]? = some y) := by
 by_cases hi : j = i
 ·subst hi
  have hlt : j < (l.set j x).length := (List.getElem?_eq_some_iff.1 h).1
  rw [List.length_set] at hlt
  rw [List.getElem?_set_self hlt] at h; cases h; exact .inl ⟨rfl, rfl⟩
 ·rw [List.getElem?_set_ne (fun hE => hi hE.symm)] at h; exact .inr ⟨hi, h⟩
theorem R.turn {C : Cx} {σ : List O} (h : R C σ) {id blk bs bs' : Nat} {o o' : O} (ho : σ[id]? = some o) (hρ : C.ρ[id]? = some (blk, bs)) (hver : o'.ver = o.ver ∧ bs' = bs ∨ o.ver < o'.ver) {w' : World}
  (h1 : w'.os = C.w.os) (h2 : w'.tape = C.w.tape) (h3 : w'.output = C.w.output) (h4 : C.w.heap.size ≤ w'.heap.size)
  (hf : ∀ b, b < C.w.heap.size → b ≠ blk → w'.heap[b]? = C.w.heap[b]?)
  (hc : ∀ cc t, C.w.heap[blk]? = some (.cells cc t (0, 0)) → ∃ cc', w'.heap[blk]? = some (.cells cc' t (0, 0)) ∧ cc'.size = cc.size)
  (hOR : Ext C (C.turn id blk bs' o'.ver w') → OR (C.turn id blk bs' o'.ver w') blk bs' o') : R (C.turn id blk bs' o'.ver w') (σ.set id o') ∧ Ext C (C.turn id blk bs' o'.ver w') := by
 have hlt : id < σ.length := (List.getElem?_eq_some_iff.1 ho).1
 have hltv : id < C.vs.length := by rw [← h.len]; exact hlt
 have hltρ : id < C.ρ.length := by rw [h.wf.len]; exact hltv
 have hv0 := h.ver id o ho
 have e : Ext C (C.turn id blk bs' o'.ver w') := {
  os := h1, tape := h2, output := h3, size := h4
  frame := fun b hb hn => hf b hb (fun hE => hn id bs (by rw [hE]; exact hρ))
  z := fun b hb => hb, nz := fun b hb => .inl hb
  nρ := fun i b p hb => by
   rcases set_cases hb with ⟨rfl, e⟩ | ⟨_, hb⟩
   ·cases e; exact .inl ⟨bs, hρ⟩
   ·exact .inl ⟨p, hb⟩
  vs := fun i v hv => by
   by_cases hi : i = id
   ·subst hi
    refine ⟨o'.ver, List.getElem?_set_self hltv, ?_⟩
    rw [hv0] at hv
    have := Option.some.inj hv
    omega
   ·exact ⟨v, by show (C.vs.set id o'.ver)[i]? = _; rw [List.getElem?_set_ne (fun hE => hi hE.symm)]; exact hv, Nat.le_refl _⟩
  same := fun i v b p hv hv' hb => by
   by_cases hi : i = id
   ·subst hi
    have h5 : (C.vs.set i o'.ver)[i]? = some v := hv'
    rw [List.getElem?_set_self hltv] at h5
    rw [hv0] at hv
    have h6 := Option.some.inj h5
    have h7 := Option.some.inj hv
    rw [hρ] at hb
    cases hb
    have hbs : bs' = bs := by omega
    subst hbs
    exact ⟨List.getElem?_set_self hltρ, hc⟩
   ·refine ⟨by show (C.ρ.set id _)[i]? = _; rw [List.getElem?_set_ne (fun hE => hi hE.symm)]; exact hb, fun cc t hcc => ⟨cc, (hf b (h.wf.lt i b p hb) (fun hE => ?_)).trans hcc, rfl⟩⟩
    subst hE
    exact hi (h.wf.inj i id b p bs hb hρ) }
 have wf' : Wf (C.turn id blk bs' o'.ver w') := {
  len := by simp [Cx.turn, h.wf.len]
  inj := fun i j b p q hi hj => by
   rcases set_cases hi with ⟨e1, e2⟩ | ⟨ni, hi⟩ <;> rcases set_cases hj with ⟨e3, e4⟩ | ⟨nj, hj⟩
   ·rw [e1, e3]
   ·cases e2; rw [e1]; exact h.wf.inj id j blk bs q hρ hj
   ·cases e4; rw [e3]; exact h.wf.inj i id blk p bs hi hρ
   ·exact h.wf.inj i j b p q hi hj
  lt := fun i b p hi => by
   rcases set_cases hi with ⟨_, e⟩ | ⟨_, hi⟩
   ·cases e; exact Nat.lt_of_lt_of_le (h.wf.lt id blk bs hρ) h4
   ·exact Nat.lt_of_lt_of_le (h.wf.lt i b p hi) h4
  zlt := fun b hb => Nat.lt_of_lt_of_le (h.wf.zlt b hb) h4
  zρ := fun i b p hi hz => by
   rcases set_cases hi with ⟨_, e⟩ | ⟨_, hi⟩
   ·cases e; exact h.wf.zρ id blk bs hρ hz
   ·exact h.wf.zρ i b p hi hz }
 refine ⟨⟨wf', by simp [h.len, Cx.turn], fun i x hx => ?_, fun i x b p hx hb => ?_⟩, e⟩
 ·rcases set_cases hx with ⟨rfl, rfl⟩ | ⟨ni, hx⟩
  ·exact List.getElem?_set_self hltv
  ·show (C.vs.set id o'.ver)[i]? = _
   rw [List.getElem?_set_ne (fun hE => ni hE.symm)]; exact h.ver i x hx
 ·rcases set_cases hx with ⟨rfl, rfl⟩ | ⟨ni, hx⟩
  ·rcases set_cases hb with ⟨_, e2⟩ | ⟨n, _⟩
   ·cases e2; exact hOR e
   ·exact absurd rfl n
  ·rcases set_cases hb with ⟨n, _⟩ | ⟨_, hb⟩
   ·exact absurd n ni
   ·have hb' : C.ρ[i]? = some (b, p) := hb
    exact (h.obj i x b p hx hb').ext e h.wf (hf b (h.wf.lt i b p hb') (fun hE => ni (h.wf.inj i id blk p bs (hE ▸ hb') hρ)))
theorem R.move {C : Cx} {σ : List O} (h : R C σ) {id : Nat} {o o' : O} (ho : σ[id]? = some o) (hver : o.ver < o'.ver) {w' : World}
  (h1 : w'.os = C.w.os) (h2 : w'.tape = C.w.tape) (h3 : w'.output = C.w.output) (h4 : C.w.heap.size < w'.heap.size)
  (hf : ∀ b, b < C.w.heap.size → w'.heap[b]? = C.w.heap[b]?)
  (hOR : Ext C (C.turn id C.w.heap.size 0 o'.ver w') → OR (C.turn id C.w.heap.size 0 o'.ver w') C.w.heap.size 0 o') :
  R (C.turn id C.w.heap.size 0 o'.ver w') (σ.set id o') ∧ Ext C (C.turn id C.w.heap.size 0 o'.ver w') := by
 have hlt : id < σ.length := (List.getElem?_eq_some_iff.1 ho).1
 have hltv : id < C.vs.length := by rw [← h.len]; exact hlt
 have hltρ : id < C.ρ.length := by rw [h.wf.len]; exact hltv
 have hv0 := h.ver id o ho
 have e : Ext C (C.turn id C.w.heap.size 0 o'.ver w') := {
  os := h1, tape := h2, output := h3, size := Nat.le_of_lt h4, frame := fun b hb _ => hf b hb, z := fun b hb => hb, nz := fun b hb => .inl hb
  nρ := fun i b p hb => by
   rcases set_cases hb with ⟨_, e⟩ | ⟨_, hb⟩
   ·cases e; exact .inr (Nat.le_refl _)
   ·exact .inl ⟨p, hb⟩
  vs := fun i v hv => by
   by_cases hi : i = id
   ·subst hi
    refine ⟨o'.ver, List.getElem?_set_self hltv, ?_⟩
    rw [hv0] at hv
    have := Option.some.inj hv
    omega
   ·exact ⟨v, by show (C.vs.set id o'.ver)[i]? = _; rw [List.getElem?_set_ne (fun hE => hi hE.symm)]; exact hv, Nat.le_refl _⟩
  same := fun i v b p hv hv' hb => by
   by_cases hi : i = id
   ·subst hi
    have h5 : (C.vs.set i o'.ver)[i]? = some v := hv'
    rw [List.getElem?_set_self hltv] at h5
    rw [hv0] at hv
    have h6 := Option.some.inj h5
    have h7 := Option.some.inj hv
    omega
   ·exact ⟨by show (C.ρ.set id _)[i]? = _; rw [List.getElem?_set_ne (fun hE => hi hE.symm)]; exact hb, fun cc t hc => ⟨cc, (hf b (h.wf.lt i b p hb)).trans hc, rfl⟩⟩ }
 have wf' : Wf (C.turn id C.w.heap.size 0 o'.ver w') := {
  len := by simp [Cx.turn, h.wf.len]
  inj := fun i j b p q hi hj => by
   rcases set_cases hi with ⟨e1, e2⟩ | ⟨ni, hi⟩ <;> rcases set_cases hj with ⟨e3, e4⟩ | ⟨nj, hj⟩
   ·rw [e1, e3]
   ·cases e2; have := h.wf.lt j _ q hj; omega
   ·cases e4; have := h.wf.lt i _ p hi; omega
   ·exact h.wf.inj i j b p q hi hj
  lt := fun i b p hi => by
   rcases set_cases hi with ⟨_, e⟩ | ⟨_, hi⟩
   ·cases e; exact h4
   ·exact Nat.lt_trans (h.wf.lt i b p hi) h4
  zlt := fun b hb => Nat.lt_trans (h.wf.zlt b hb) h4
  zρ := fun i b p hi hz => by
   rcases set_cases hi with ⟨_, e⟩ | ⟨_, hi⟩
   ·cases e; exact absurd (h.wf.zlt _ hz) (Nat.lt_irrefl _)
   ·exact h.wf.zρ i b p hi hz }
 refine ⟨⟨wf', by simp [h.len, Cx.turn], fun i x hx => ?_, fun i x b p hx hb => ?_⟩, e⟩
 ·rcases set_cases hx with ⟨rfl, rfl⟩ | ⟨ni, hx⟩
  ·exact List.getElem?_set_self hltv
  ·show (C.vs.set id o'.ver)[i]? = _
   rw [List.getElem?_set_ne (fun hE => ni hE.symm)]; exact h.ver i x hx
 ·rcases set_cases hx with ⟨rfl, rfl⟩ | ⟨ni, hx⟩
  ·rcases set_cases hb with ⟨_, e2⟩ | ⟨n, _⟩
   ·cases e2; exact hOR e
   ·exact absurd rfl n
  ·rcases set_cases hb with ⟨n, _⟩ | ⟨_, hb⟩
   ·exact absurd n ni
   ·exact (h.obj i x b p hx hb).ext e h.wf (hf b (h.wf.lt i b p hb))
end Go.Ab
end
section
namespace Go.Ab
open Go
inductive Od where
 | t (n : Nat)
 | c (v : V)
 | fn (f : FuncId)
 deriving Inhabited
def Od.ev (env : Nat → V) : Od → V
 | .t n => env n
 | .c v => v
 | .fn f => .f (.func f) [] []
inductive IOp where
 | mov (x : Od)
 | pick (c a b : Od)
 | alloc (zs : List V)
 | box (x : Od)
 | build (zs : List V) (ps : List (Nat × Nat × Od))
 | bsl (frz : Bool) (es n : Nat) (zs : List V) (ps : List (Nat × Nat × Od))
 | load1 (a : Od)
 | loadA (n : Nat) (a : Od)
 | store1 (a x : Od)
 | storeA (n : Nat) (a x : Od)
 | nilc (x : Od)
 | bin (op : BinOp) (x y : Od)
 | eqv (k : IntKind) (n : Nat) (neq : Bool) (x y : Od)
 | eqb (neq : Bool) (x y : Od)
 | not (x : Od)
 | neg (x : Od)
 | com (x : Od)
 | conv (k : IntKind) (x : Od)
 | mkf (fn : Fn) (first cap : List Od)
 | mkmap
 | mksl (es bytes : Nat) (zs : List V) (l c : Od)
 | slc (es : Nat) (x : Od) (lo hi mx : Option Od)
 | sla (n es : Nat) (x : Od)
 | fad (off : Nat) (x : Od)
 | fld1 (off : Nat) (x : Od)
 | fldA (off size : Nat) (x : Od)
 | ixa (n es : Nat) (x i : Od)
 | ixs (es : Nat) (x i : Od)
 | ixv (n : Nat) (one : Option Nat) (x i : Od)
 | ext (i : Nat) (x : Od)
 | len (x : Od)
 | lenm (x : Od)
 | lens (x : Od)
 | app (es bytes : Nat) (x y : Od)
 | clr (es : Nat) (zs : List V) (x : Od)
 | cpy (es : Nat) (d s : Od)
 | mx (xs : List Od)
 | mn (xs : List Od)
 | lkp (q : IntKind) (n : Nat) (zs : V) (ok : Bool) (x k : Od)
 | mset (q : IntKind) (n : Nat) (x k v : Od)
 | sidx (x i : Od)
 | snil (neq : Bool) (x : Od)
 | ment (q : IntKind) (n : Nat) (zs : V) (x k : Od)
 | mest (x s v : Od)
 | mdel (q : IntKind) (n : Nat) (x k : Od)
 | rng (x : Od)
 | nxt (x : Od)
 | ent (x : Od)
 | call (f : FuncId) (args : List Od)
 | callv (g : Od) (args : List Od)
 deriving Inhabited
def cellsOf : V → Option (List V)
 | .agg cs => some cs
 | .u => none
 | .tup _ => none
 | .b x => some [.b x]
 | .i k n => some [.i k n]
 | .str s => some [.str s]
 | .np => some [.np]
 | .p a b c => some [.p a b c]
 | .sp a b => some [.sp a b]
 | .s a b c d e => some [.s a b c d e]
 | .ss a b c => some [.ss a b c]
 | .nm => some [.nm]
 | .m a => some [.m a]
 | .sm a => some [.sm a]
 | .nf => some [.nf]
 | .f a b c => some [.f a b c]
def splice (cs : List V) (off : Nat) (vs : List V) : List V := cs.take off ++ vs ++ cs.drop (off + vs.length)
def fillV : List V → List (Nat × Nat × V) → Option (List V)
 | cs, [] => some cs
 | cs, (off, size, v) :: r =>
  match cellsOf v with
  | some vs => if vs.length = size ∧ off + size ≤ cs.length then fillV (splice cs off vs) r else none
  | none => none
def rep (n : Nat) (zs : List V) : List V := (List.replicate n zs).flatten
def liveV (σ : List O) (id ver : Nat) : Prop := (σ[id]?).map O.ver = some ver
def bitop (op : BinOp) (k : IntKind) (x y : Int) : Int :=
 let a := BitVec.ofInt k.bits x
 let b := BitVec.ofInt k.bits y
 match op with
 | .and => k.wrap ((a &&& b).toNat : Int)
 | .or => k.wrap ((a ||| b).toNat : Int)
 | .xor => k.wrap ((a ^^^ b).toNat : Int)
 | _ => k.wrap ((a &&& ~~~b).toNat : Int)
def binK (op : BinOp) (x y : V) (K : V → Prop) : Prop :=
 match x, y with
 | .i k a, .i k' b =>
  match op with
  | .shl => 0 ≤ b ∧ K (.i k (k.wrap (a * 2 ^ (min b.toNat k.bits))))
  | .shr => 0 ≤ b ∧ K (.i k (a.fdiv (2 ^ (min b.toNat k.bits))))
  | .add => k = k' ∧ K (.i k (k.wrap (a + b)))
  | .sub => k = k' ∧ K (.i k (k.wrap (a - b)))
  | .mul => k = k' ∧ K (.i k (k.wrap (a * b)))
  | .quo => k = k' ∧ b ≠ 0 ∧ K (.i k (k.wrap (a.tdiv b)))
  | .rem => k = k' ∧ b ≠ 0 ∧ K (.i k (a.tmod b))
  | .and => k = k' ∧ K (.i k (bitop .and k a b))
  | .or => k = k' ∧ K (.i k (bitop .or k a b))
  | .xor => k = k' ∧ K (.i k (bitop .xor k a b))
  | .andNot => k = k' ∧ K (.i k (bitop .andNot k a b))
  | .eql => k = k' ∧ K (.b (decide (a = b)))
  | .neq => k = k' ∧ K (.b (!decide (a = b)))
  | .lss => k = k' ∧ K (.b (decide (a < b)))
  | .leq => k = k' ∧ K (.b (decide (a ≤ b)))
  | .gtr => k = k' ∧ K (.b (decide (b < a)))
  | .geq => k = k' ∧ K (.b (decide (b ≤ a)))
 | _, _ => False
def intsOf : List V → Option (List Int)
 | [] => some []
 | .i _ n :: r => (intsOf r).map (n :: ·)
 | _ :: _ => none
def intsK (k : IntKind) : List V → Option (List Int)
 | [] => some []
 | .i k' n :: r => if k' = k then (intsK k r).map (n :: ·) else none
 | _ :: _ => none
def eqvK (k : IntKind) (n : Nat) (neq : Bool) (x y : V) (K : V → Prop) : Prop :=
 match x, y with
 | .agg xs, .agg ys =>
  match intsK k xs, intsK k ys with
  | some a, some b => xs.length = n ∧ ys.length = n ∧ K (.b (if neq then !decide (a = b) else decide (a = b)))
  | _, _ => False
 | _, _ => False
def eqbK (neq : Bool) (x y : V) (K : V → Prop) : Prop :=
 match x, y with
 | .b a, .b b => K (.b (if neq then !(a == b) else a == b))
 | _, _ => False
def ld1K (a : V) (σ : List O) (K : V → Prop) : Prop :=
 match a with
 | .p id ver off =>
  match σ[id]? with
  | some (.row v cells) => v = ver ∧ off < cells.length ∧ K (cells.getD off .u)
  | _ => False
 | .sp cells off => off < cells.length ∧ K (cells.getD off .u)
 | _ => False
def ldAK (n : Nat) (a : V) (σ : List O) (K : V → Prop) : Prop :=
 match a with
 | .p id ver off =>
  match σ[id]? with
  | some (.row v cells) => v = ver ∧ off + n ≤ cells.length ∧ K (.agg ((cells.drop off).take n))
  | _ => False
 | .sp cells off => off + n ≤ cells.length ∧ K (.agg ((cells.drop off).take n))
 | _ => False
def isAggV : V → Bool
 | .agg _ => true
 | _ => false
def st1K (a x : V) (σ : List O) (K : V → List O → Prop) : Prop :=
 match a with
 | .p id ver off =>
  match σ[id]? with
  | some (.row v cells) => v = ver ∧ off < cells.length ∧ cellsOf x = some [x] ∧ K .u (σ.set id (.row v (cells.set off x)))
  | _ => False
 | _ => False
def stAK (n : Nat) (a x : V) (σ : List O) (K : V → List O → Prop) : Prop :=
 match a, x with
 | .p id ver off, .agg xs =>
  match σ[id]? with
  | some (.row v cells) => v = ver ∧ xs.length = n ∧ off + n ≤ cells.length ∧ K .u (σ.set id (.row v (splice cells off xs)))
  | _ => False
 | _, _ => False
def nilcK (x : V) (σ : List O) (K : V → Prop) : Prop :=
 match x with
 | .p id ver off => liveV σ id ver ∧ K (.p id ver off)
 | .sp cs off => K (.sp cs off)
 | .f (.func f) a b => K (.f (.func f) a b)
 | _ => False
def slcB (len : Nat) (lo hi mx : Option V) (K : Nat → Nat → Option Nat → Prop) : Prop :=
 match mx with
 | none =>
  match hi with
  | none =>
   match lo with
   | none => K 0 len none
   | some (.i _ l) => 0 ≤ l ∧ l ≤ len ∧ K l.toNat len none
   | _ => False
  | some (.i _ h) =>
   match lo with
   | none => 0 ≤ h ∧ h ≤ len ∧ K 0 h.toNat none
   | some (.i _ l) => 0 ≤ l ∧ l ≤ h ∧ h ≤ len ∧ K l.toNat h.toNat none
   | _ => False
  | _ => False
 | some (.i _ m) =>
  match hi with
  | some (.i _ h) =>
   match lo with
   | none => 0 ≤ h ∧ h ≤ m ∧ m ≤ len ∧ K 0 h.toNat (some m.toNat)
   | some (.i _ l) => 0 ≤ l ∧ l ≤ h ∧ h ≤ m ∧ m ≤ len ∧ K l.toNat h.toNat (some m.toNat)
   | _ => False
  | _ => False
 | _ => False
def fullOf (m : Option Nat) (h len : Nat) (full : Bool) : Bool :=
 match m with
 | some m => decide (m = h)
 | none => full && decide (h = len)
def slcK (es : Nat) (x : V) (lo hi mx : Option V) (σ : List O) (K : V → Prop) : Prop :=
 match x with
 | .s id ver off len es' => es = es' ∧ liveV σ id ver ∧ slcB len lo hi mx fun l h _ => K (.s id ver (off + l * es) (h - l) es)
 | .ss cells len full => slcB len lo hi mx fun l h m => K (.ss ((cells.drop (l * es)).take ((h - l) * es)) (h - l) (fullOf m h len full))
 | _ => False
def slaK (n es : Nat) (x : V) (σ : List O) (K : V → Prop) : Prop :=
 match x with
 | .p id ver off =>
  match σ[id]? with
  | some (.row v cells) => v = ver ∧ off + n * es ≤ cells.length ∧ K (.s id ver off n es)
  | _ => False
 | _ => False
def fadK (o : Nat) (x : V) (σ : List O) (K : V → Prop) : Prop :=
 match x with
 | .p id ver off => liveV σ id ver ∧ K (.p id ver (off + o))
 | .sp cells off => K (.sp cells (off + o))
 | _ => False
def ixaK (n es : Nat) (x i : V) (σ : List O) (K : V → Prop) : Prop :=
 match x, i with
 | .p id ver off, .i _ j => liveV σ id ver ∧ 0 ≤ j ∧ j < n ∧ K (.p id ver (off + j.toNat * es))
 | .sp cells off, .i _ j => 0 ≤ j ∧ j < n ∧ K (.sp cells (off + j.toNat * es))
 | _, _ => False
def ixvK (n : Nat) (one : Option Nat) (x i : V) (K : V → Prop) : Prop :=
 match x, i with
 | .agg cs, .i _ j => 0 ≤ j ∧ j < n ∧
  match one with
  | none => cs.length = n ∧ K (cs.getD j.toNat .u)
  | some s => cs.length = n * s ∧ K (.agg ((cs.drop (j.toNat * s)).take s))
 | _, _ => False
def ixsK (es : Nat) (x i : V) (σ : List O) (K : V → Prop) : Prop :=
 match x, i with
 | .s id ver off len es', .i _ j => es = es' ∧ liveV σ id ver ∧ 0 ≤ j ∧ j < len ∧ K (.p id ver (off + j.toNat * es))
 | .ss cells len _, .i _ j => 0 ≤ j ∧ j < len ∧ K (.sp cells (j.toNat * es))
 | _, _ => False
def rowOf (es : Nat) (y : V) (σ : List O) (K : List V → Nat → Prop) : Prop :=
 match y with
 | .ss ys m _ => ys.length = m * es ∧ K ys m
 | .s id ver off m es' =>
  match σ[id]? with
  | some (.row v cells) => v = ver ∧ es = es' ∧ off + m * es ≤ cells.length ∧ K ((cells.drop off).take (m * es)) m
  | _ => False
 | _ => False
def appK (es bytes : Nat) (x y : V) (σ : List O) (K : V → List O → Prop) : Prop :=
 rowOf es y σ fun ys m =>
  match x with
  | .ss xs n true => xs.length = n * es ∧ (n + m) * bytes ≤ 140737488355328 ∧
    if m = 0 then K (.ss xs n true) σ else K (.s σ.length 0 0 (n + m) es) (σ ++ [.row 0 (xs ++ ys)])
  | .s id ver off n es' =>
   match σ[id]? with
   | some (.row v cells) => v = ver ∧ es = es' ∧ off + n * es = cells.length ∧ (n + m) * bytes ≤ 140737488355328 ∧
     if m = 0 then K (.s id ver off n es) σ else K (.s id (ver + 1) 0 (n + m) es) (σ.set id (.row (ver + 1) (cells.drop off ++ ys)))
   | _ => False
  | _ => False
def lenK (x : V) (σ : List O) (K : V → Prop) : Prop :=
 match x with
 | .s id ver _ len _ => liveV σ id ver ∧ K (.i .i64 len)
 | .ss _ len _ => K (.i .i64 len)
 | _ => False
def lenmK (x : V) (σ : List O) (K : V → Prop) : Prop :=
 match x with
 | .sm l => K (.i .i64 l.length)
 | .m id => match σ[id]? with
  | some (.map es _) => K (.i .i64 es.length)
  | _ => False
 | .nm => K (.i .i64 0)
 | _ => False
def lensK (x : V) (K : V → Prop) : Prop :=
 match x with
 | .str s => K (.i .i64 s.size)
 | _ => False
def clrK (es : Nat) (zs : List V) (x : V) (σ : List O) (K : V → List O → Prop) : Prop :=
 match x with
 | .s id ver off n es' =>
  match σ[id]? with
  | some (.row v cells) => v = ver ∧ es = es' ∧ off + n * es ≤ cells.length ∧ K .u (σ.set id (.row v (splice cells off (rep n zs))))
  | _ => False
 | .ss [] 0 _ => K .u σ
 | _ => False
def cpyK (es : Nat) (d s : V) (σ : List O) (K : V → List O → Prop) : Prop :=
 rowOf es s σ fun ys m =>
  match d with
  | .s id ver off n es' =>
   match σ[id]? with
   | some (.row v cells) => v = ver ∧ es = es' ∧ off + n * es ≤ cells.length ∧ K (.i .i64 (min m n : Nat)) (σ.set id (.row v (splice cells off (ys.take (min m n * es)))))
   | _ => False
  | .ss [] 0 _ => K (.i .i64 0) σ
  | _ => False
def mxK (f : Int → Int → Int) : List V → (V → Prop) → Prop
 | .i k a :: r, K => match intsOf r with
  | some l => K (.i k (l.foldl f a))
  | none => False
 | _, _ => False
def extK (i : Nat) (x : V) (K : V → Prop) : Prop :=
 match x with
 | .tup vs => i < vs.length ∧ K (vs.getD i .u)
 | _ => False
def keyOf (q : IntKind) (n : Nat) (k : V) : Option (List Int) :=
 match k with
 | .agg cs => if cs.length = n ∧ n ≠ 0 then intsK q cs else none
 | .i k' a => if n = 0 ∧ k' = q then some [a] else none
 | _ => none
def findM (q : IntKind) (n : Nat) (k : List Int) : List (V × V) → Option V
 | [] => none
 | (k', v) :: r => if keyOf q n k' = some k then some v else findM q n k r
def keysOK (q : IntKind) (n : Nat) (l : List (V × V)) : Prop := ∀ e ∈ l, ∃ k, keyOf q n e.1 = some k
def lkpF (q : IntKind) (n : Nat) (zs : V) (ok : Bool) (ks : List Int) (l : List (V × V)) (K : V → Prop) : Prop :=
 keysOK q n l ∧
  match findM q n ks l with
  | some v => K (if ok then .tup [v, .b true] else v)
  | none => K (if ok then .tup [zs, .b false] else zs)
def lkpK (q : IntKind) (n : Nat) (zs : V) (ok : Bool) (x k : V) (σ : List O) (K : V → Prop) : Prop :=
 match keyOf q n k with
 | some ks =>
  match x with
  | .sm l => lkpF q n zs ok ks l K
  | .m id => match σ[id]? with
   | some (.map es _) => lkpF q n zs ok ks (es.map (·.2)) K
   | _ => False
  | .nm => K (if ok then .tup [zs, .b false] else zs)
  | _ => False
 | none => False
def idxM (q : IntKind) (n : Nat) (k : List Int) : List (V × V) → Option Nat
 | [] => none
 | (k', _) :: r => if keyOf q n k' = some k then some 0 else (idxM q n k r).map (· + 1)
def msetK (q : IntKind) (n : Nat) (x k v : V) (σ : List O) (K : V → List O → Prop) : Prop :=
 match keyOf q n k, x with
 | some ks, .m id =>
  match σ[id]? with
  | some (.map es clock) => keysOK q n (es.map (·.2)) ∧
   match idxM q n ks (es.map (·.2)) with
   | some i => K .u (σ.set id (.map (es.modify i fun e => (e.1, k, v)) clock))
   | none => K .u (σ.set id (.map (es ++ [(clock, k, v)]) (clock + 1)))
  | _ => False
 | _, _ => False
def sidxK (x i : V) (K : V → Prop) : Prop :=
 match x, i with
 | .str s, .i _ j => 0 ≤ j ∧ match s[j.toNat]? with
  | some b => K (.i .u8 b.toNat)
  | none => False
 | _, _ => False
def snilK (neq : Bool) (x : V) (K : V → Prop) : Prop :=
 match x with
 | .ss _ n _ => n ≠ 0 ∧ K (.b neq)
 | _ => False
def mentK (q : IntKind) (n : Nat) (zs : V) (x k : V) (σ : List O) (K : V → List O → Prop) : Prop :=
 match keyOf q n k, x with
 | some ks, .m id =>
  match σ[id]? with
  | some (.map es clock) => keysOK q n (es.map (·.2)) ∧
   match idxM q n ks (es.map (·.2)) with
   | some i => match es[i]? with
    | some e => K (.tup [e.2.2, .i .i64 (e.1 : Nat)]) σ
    | none => False
   | none => K (.tup [zs, .i .i64 (clock : Nat)]) (σ.set id (.map (es ++ [(clock, k, zs)]) (clock + 1)))
  | _ => False
 | _, _ => False
def mestK (x s v : V) (σ : List O) (K : V → List O → Prop) : Prop :=
 match x, s with
 | .m id, .i .i64 b =>
  match σ[id]? with
  | some (.map es clock) =>
   match es.findIdx? fun e => ((e.1 : Nat) : Int) == b with
   | some i => K .u (σ.set id (.map (es.modify i fun e => (e.1, e.2.1, v)) clock))
   | none => False
  | _ => False
 | _, _ => False
def mdelK (q : IntKind) (n : Nat) (x k : V) (σ : List O) (K : V → List O → Prop) : Prop :=
 match keyOf q n k, x with
 | some ks, .m id =>
  match σ[id]? with
  | some (.map es clock) => keysOK q n (es.map (·.2)) ∧
   match idxM q n ks (es.map (·.2)) with
   | some i => K .u (σ.set id (.map (es.eraseIdx i) clock))
   | none => K .u (σ.set id (.map es clock))
  | _ => False
 | _, _ => False
def rngK (x : V) (σ : List O) (K : V → List O → Prop) : Prop :=
 match x with
 | .m id =>
  match σ[id]? with
  | some (.map es clock) => K (.p σ.length 0 0) (σ ++ [.it id clock [] clock])
  | _ => False
 | _ => False
def nxtK (x : V) (σ : List O) (K : V → List O → Prop) : Prop :=
 match x with
 | .p id ver off =>
  match σ[id]? with
  | some (.it mid since seen stepped) =>
   match σ[mid]? with
   | some (.map es clock) => ver = 0 ∧ off = 0 ∧ clock = since ∧ stepped = since ∧ (∀ e ∈ es, e.1 < since) ∧
    ((∀ e ∈ es, e.1 ∈ seen) → K (.tup [.b false]) σ) ∧
    (∀ e ∈ es, e.1 ∉ seen → K (.tup [.b true, e.2.1, e.2.2]) (σ.set id (.it mid since (seen ++ [e.1]) clock)))
   | _ => False
  | _ => False
 | _ => False
def entK (x : V) (σ : List O) (K : V → Prop) : Prop :=
 match x with
 | .p id ver off =>
  match σ[id]? with
  | some (.it mid since seen stepped) =>
   match σ[mid]?, seen.getLast? with
   | some (.map es clock), some b => ver = 0 ∧ off = 0 ∧ clock = stepped ∧
    match es.find? (fun e => e.1 == b) with
    | some e => K (.tup [e.2.1, e.2.2])
    | none => False
   | _, _ => False
  | _ => False
 | _ => False
def evK (g : Od → V) (σ : List O) (K : V → List O → Prop) : IOp → Prop
 | .mov x => K (g x) σ
 | .pick c a b => match g c with
  | .b t => K (if t then g a else g b) σ
  | _ => False
 | .alloc zs => K (.p σ.length 0 0) (σ ++ [.row 0 zs])
 | .box x => match cellsOf (g x) with
  | some cs => K (.p σ.length 0 0) (σ ++ [.row 0 cs])
  | none => False
 | .build zs ps => match fillV zs (ps.map fun p => (p.1, p.2.1, g p.2.2)) with
  | some cs => K (.agg cs) σ
  | none => False
 | .bsl frz es n zs ps => match fillV zs (ps.map fun p => (p.1, p.2.1, g p.2.2)) with
  | some cs => if frz then K (.ss cs n true) σ else K (.s σ.length 0 0 n es) (σ ++ [.row 0 cs])
  | none => False
 | .load1 a => ld1K (g a) σ fun v => K v σ
 | .loadA n a => ldAK n (g a) σ fun v => K v σ
 | .store1 a x => st1K (g a) (g x) σ K
 | .storeA n a x => stAK n (g a) (g x) σ K
 | .nilc x => nilcK (g x) σ fun v => K v σ
 | .bin op x y => binK op (g x) (g y) fun v => K v σ
 | .eqv k n neq x y => eqvK k n neq (g x) (g y) fun v => K v σ
 | .eqb neq x y => eqbK neq (g x) (g y) fun v => K v σ
 | .not x => match g x with
  | .b t => K (.b (!t)) σ
  | _ => False
 | .neg x => match g x with
  | .i k n => K (.i k (k.wrap (0 - n))) σ
  | _ => False
 | .com x => match g x with
  | .i k n => K (.i k (bitop .xor k (if k.signed then -1 else k.max) n)) σ
  | _ => False
 | .conv k x => match g x with
  | .i _ n => K (.i k (k.wrap n)) σ
  | _ => False
 | .mkf fn first cap => K (.f fn (first.map g) (cap.map g)) σ
 | .mkmap => K (.m σ.length) (σ ++ [.map [] 0])
 | .mksl es bytes zs l c => match g l, g c with
  | .i _ n, .i _ n' => n = n' ∧ 0 ≤ n ∧ n ≤ 281474976710656 ∧ bytes * n ≤ 281474976710656 ∧ K (.s σ.length 0 0 n.toNat es) (σ ++ [.row 0 (rep n.toNat zs)])
  | _, _ => False
 | .slc es x lo hi mx => slcK es (g x) (lo.map g) (hi.map g) (mx.map g) σ fun v => K v σ
 | .sla n es x => slaK n es (g x) σ fun v => K v σ
 | .fad o x => fadK o (g x) σ fun v => K v σ
 | .fld1 off x => match g x with
  | .agg cs => off < cs.length ∧ K (cs.getD off .u) σ
  | _ => False
 | .fldA off size x => match g x with
  | .agg cs => off + size ≤ cs.length ∧ K (.agg ((cs.drop off).take size)) σ
  | _ => False
 | .ixa n es x i => ixaK n es (g x) (g i) σ fun v => K v σ
 | .ixs es x i => ixsK es (g x) (g i) σ fun v => K v σ
 | .ixv n one x i => ixvK n one (g x) (g i) fun v => K v σ
 | .ext i x => extK i (g x) fun v => K v σ
 | .len x => lenK (g x) σ fun v => K v σ
 | .lenm x => lenmK (g x) σ fun v => K v σ
 | .lens x => lensK (g x) fun v => K v σ
 | .app es bytes x y => appK es bytes (g x) (g y) σ K
 | .clr es zs x => clrK es zs (g x) σ K
 | .cpy es d s => cpyK es (g d) (g s) σ K
 | .mx xs => mxK max (xs.map g) fun v => K v σ
 | .mn xs => mxK min (xs.map g) fun v => K v σ
 | .lkp q n zs ok x k => lkpK q n zs ok (g x) (g k) σ fun v => K v σ
 | .mset q n x k v => msetK q n (g x) (g k) (g v) σ K
 | .mdel q n x k => mdelK q n (g x) (g k) σ K
 | .sidx x i => sidxK (g x) (g i) fun v => K v σ
 | .snil neq x => snilK neq (g x) fun v => K v σ
 | .ment q n zs x k => mentK q n zs (g x) (g k) σ K
 | .mest x s v => mestK (g x) (g s) (g v) σ K
 | .rng x => rngK (g x) σ K
 | .nxt x => nxtK (g x) σ K
 | .ent x => entK (g x) σ fun v => K v σ
 | .call _ _ => False
 | .callv _ _ => False
def cv1 : Value → Option V
 | .bool b => some (.b b)
 | .int k n => some (.i k n)
 | .string s => some (.str s)
 | .pointer none => some .np
 | .slice none 0 0 => some (.ss [] 0 true)
 | .map none => some .nm
 | .nilFunc => some .nf
 | _ => none
def cvl : List Value → Option (List V)
 | [] => some []
 | v :: r => match cv1 v, cvl r with
  | some x, some xs => some (x :: xs)
  | _, _ => none
def cvV : Value → Option V
 | .agg cs => (cvl cs.toList).map .agg
 | v => cv1 v
def trX : Operand → Option Od
 | .tmp t => some (.t t)
 | .const v => (cvV v).map .c
 | .func f => some (.fn f)
 | .global _ => none
def trXs : List Operand → Option (List Od)
 | [] => some []
 | x :: r => match trX x, trXs r with
  | some y, some ys => some (y :: ys)
  | _, _ => none
def trO : Option Operand → Option (Option Od)
 | none => some none
 | some x => (trX x).map some
def szP (P : Program) (t : TypeId) : Option Nat := (P.info? t).map (·.size)
def zcP (P : Program) (t : TypeId) : Option (List V) :=
 match P.info? t with
 | some i => match i.zero with
  | some z => cvl z.cells.toList
  | none => none
 | none => none
def aggP (P : Program) (t : TypeId) : Option Bool :=
 match P.underlying t with
 | some (.struct _) => some true
 | some (.array _ _) => some true
 | some _ => some false
 | none => none
def trParts (P : Program) (place : Nat → Option (Nat × Nat)) : List (Nat × Operand) → Option (List (Nat × Nat × Od))
 | [] => some []
 | (i, x) :: r => match place i, trX x, trParts P place r with
  | some (o, s), some y, some ys => some ((o, s, y) :: ys)
  | _, _, _ => none
def intFields (P : Program) (q : IntKind) : List Field → Nat → Bool
 | [], _ => true
 | f :: r, j => f.name != "_" && f.offset == j && szP P f.type == some 1 && (match P.underlying f.type with | some (.int k) => k == q | _ => false) && intFields P q r (j + 1)
def firstKind (P : Program) : List Field → Option IntKind
 | f :: _ => match P.underlying f.type with
  | some (.int k) => some k
  | _ => none
 | [] => none
def keyP (P : Program) (t : TypeId) : Option (IntKind × Nat) :=
 match P.underlying t with
 | some (.int k) => some (k, 0)
 | some (.struct fs) => match firstKind P fs.toList with
  | some q => if intFields P q fs.toList 0 = true ∧ P.stoodInHeld t = false then some (q, fs.size) else none
  | none => none
 | _ => none
def eqP (P : Program) (t : TypeId) : Option (IntKind × Nat) :=
 if P.eqGuardType P.depth t = true then none else
 match P.underlying t with
 | some (.struct fs) => match firstKind P fs.toList with
  | some q => if intFields P q fs.toList 0 = true ∧ P.stoodInHeld t = false then some (q, fs.size) else none
  | none => none
 | some (.array n e) => match P.underlying e with
  | some (.int k) => if szP P e = some 1 then some (k, n) else none
  | _ => none
 | _ => none
end Go.Ab
end
section
namespace Go.Ab
open Go
theorem add_at (b o n : Nat) : (⟨b, o, none⟩ : Addr).add n = ⟨b, o + n, none⟩ := by unfold Addr.add; split <;> simp_all
theorem cellsOf_one {x : V} (h : cellsOf x = some [x]) {C : Cx} {c : Value} (hv : VR C x c) : one1 c = true := by
 cases hv <;> first | rfl | (simp [cellsOf] at h; done) | (cases h; done) | assumption | skip
 all_goals (simp [cellsOf] at h)
theorem VR.cells {x : V} {xs : List V} (h : cellsOf x = some xs) {C : Cx} {c : Value} (hv : VR C x c) :
  c.cells.size = xs.length ∧ (∀ d ∈ c.cells, one1 d = true) ∧ ∀ (j : Nat) (y : V) (d : Value), xs[j]? = some y → c.cells[j]? = some d → VR C y d := by
 have single : ∀ {x : V} {c : Value}, VR C x c → one1 c = true → c.cells.size = [x].length ∧ (∀ d ∈ c.cells, one1 d = true) ∧ ∀ (j : Nat) (y : V) (d : Value), [x][j]? = some y → c.cells[j]? = some d → VR C y d := by
  intro x c hv h1
  have e : c.cells = #[c] := by cases c <;> first | rfl | (simp [one1, Value.oneCell'] at h1)
  rw [e]
  refine ⟨rfl, by simpa using h1, fun j y d hy hd => ?_⟩
  cases j with
  | zero => simp at hy hd; subst hy; subst hd; exact hv
  | succ j => simp at hy
 cases x <;> simp only [cellsOf, Option.some.injEq, reduceCtorEq] at h
 case agg cs =>
  subst h
  cases hv with
  | agg _ cs' hl h1 hv => exact ⟨hl, h1, hv⟩
 all_goals
  subst h
  exact single hv (cellsOf_one (by rfl) hv)
def Done (C : Cx) (K : V → List O → Prop) (r : Result Value) : Prop :=
 ∃ cv C' v σ', r = .ok cv C'.w ∧ R C' σ' ∧ Ext C C' ∧ VR C' v cv ∧ K v σ'
theorem Done.same {C : Cx} {σ : List O} (h : R C σ) {K : V → List O → Prop} {v : V} {cv : Value} (hv : VR C v cv) (hk : K v σ) : Done C K (.ok cv C.w) :=
 ⟨cv, C, v, σ, rfl, h, Ext.refl C, hv, hk⟩
theorem get_ok {α : Type} {l : List α} {j : Nat} (h : j < l.length) (d : α) : l[j]? = some (l.getD j d) := by
 simp [List.getD, List.getElem?_eq_getElem h]
section
variable {P : Program} {C : Cx} {σ : List O}
theorem row_inv {blk bs ver : Nat} {cells : List V} (h : OR C blk bs (.row ver cells)) : ∃ cc t, C.w.heap[blk]? = some (.cells cc t (0, 0)) ∧ bs + cells.length ≤ cc.size ∧
  (∀ c ∈ cc, one1 c = true) ∧ ∀ (j : Nat) (x : V) (c : Value), cells[j]? = some x → cc[bs + j]? = some c → VR C x c := by
 cases h with
 | row _ _ cc t hb hl h1 hv => exact ⟨cc, t, hb, hl, h1, hv⟩
theorem ptr_row (h : R C σ) {id ver off : Nat} {cells : List V} {c : Value} (ho : σ[id]? = some (.row ver cells)) (hv : VR C (.p id ver off) c) :
  ∃ blk bs cc t, c = .pointer (some ⟨blk, bs + off, none⟩) ∧ C.ρ[id]? = some (blk, bs) ∧ C.w.heap[blk]? = some (.cells cc t (0, 0)) ∧ bs + cells.length ≤ cc.size ∧
   (∀ c ∈ cc, one1 c = true) ∧ ∀ (j : Nat) (x : V) (c : Value), cells[j]? = some x → cc[bs + j]? = some c → VR C x c := by
 have hver := h.ver id _ ho
 cases hv with
 | p _ _ _ blk bs hρ hv =>
  obtain ⟨cc, t, a, b, d, e⟩ := row_inv (h.obj id _ blk bs ho hρ)
  exact ⟨blk, bs, cc, t, rfl, hρ, a, b, d, e⟩
 | p0 _ _ _ v _ h1 hv hl =>
  rw [hver] at hv
  have := Option.some.inj hv
  simp only [O.ver] at this
  omega
theorem live_ptr {id ver off : Nat} {c : Value} (hver : C.vs[id]? = some ver) (hv : VR C (.p id ver off) c) :
  ∃ blk bs, c = .pointer (some ⟨blk, bs + off, none⟩) ∧ C.ρ[id]? = some (blk, bs) := by
 cases hv with
 | p _ _ _ blk bs hρ hv => exact ⟨blk, bs, rfl, hρ⟩
 | p0 _ _ _ v _ h1 hv hl =>
  rw [hver] at hv
  have := Option.some.inj hv
  omega
theorem live_ver (h : R C σ) {id ver : Nat} (hl : liveV σ id ver) : C.vs[id]? = some ver := by
 unfold liveV at hl
 cases ho : σ[id]? with
 | none => rw [ho] at hl; cases hl
 | some o =>
  rw [ho] at hl
  simp at hl
  rw [h.ver id o ho, hl]
theorem cell_of {w : World} {blk o : Nat} {cc : Array Value} {t : TypeId} (hb : w.heap[blk]? = some (.cells cc t (0, 0))) : w.cell? ⟨blk, o, none⟩ = cc[o]? := by
 simp [World.cell?, hb]
theorem ld1_cell (h : R C σ) {x : V} {c : Value} (hx : VR C x c) {K : V → Prop} (hk : ld1K x σ K) :
  ∃ blk o v cv, c = .pointer (some ⟨blk, o, none⟩) ∧ C.w.cell? ⟨blk, o, none⟩ = some cv ∧ VR C v cv ∧ K v := by
 cases x <;> simp only [ld1K] at hk
 case p id ver off =>
  split at hk
  ·rename_i v cells ho
   obtain ⟨rfl, hoff, hk⟩ := hk
   obtain ⟨blk, bs, cc, t, rfl, hρ, hb, hl, h1, hv⟩ := ptr_row h ho hx
   have hlt : bs + off < cc.size := by omega
   exact ⟨blk, bs + off, _, cc[bs + off], rfl, by rw [cell_of hb]; exact Array.getElem?_eq_getElem hlt, hv off _ _ (get_ok hoff .u) (Array.getElem?_eq_getElem hlt), hk⟩
  ·exact hk.elim
 case sp cells off =>
  obtain ⟨hoff, hk⟩ := hk
  cases hx with
  | sp _ _ blk base cs hz hl h1 hc hv =>
   have hlt : off < cs.length := by omega
   exact ⟨blk, base + off, _, cs[off], rfl, hc off _ (List.getElem?_eq_getElem hlt), hv off _ _ (get_ok hoff .u) (List.getElem?_eq_getElem hlt), hk⟩
 all_goals exact hk.elim
theorem run_isAgg_false {t : TypeId} (ha : aggP P t = some false) (w : World) : (isAgg t).run P w = .ok false w := by
 unfold aggP at ha
 unfold isAgg
 cases hd : P.underlying t with
 | none => rw [hd] at ha; cases ha
 | some d =>
  rw [hd] at ha
  simp only [Sem.run_bind, run_underlying hd, Result.andThen_ok]
  cases d <;> first | rfl | (simp at ha)
theorem run_isAgg_true {t : TypeId} (ha : aggP P t = some true) (w : World) : (isAgg t).run P w = .ok true w := by
 unfold aggP at ha
 unfold isAgg
 cases hd : P.underlying t with
 | none => rw [hd] at ha; cases ha
 | some d =>
  rw [hd] at ha
  simp only [Sem.run_bind, run_underlying hd, Result.andThen_ok]
  cases d <;> first | rfl | (simp at ha)
theorem run_sizeOf {t : TypeId} {n : Nat} (h : szP P t = some n) (w : World) : (sizeOf t).run P w = .ok n w := by
 unfold szP at h
 cases hi : P.info? t with
 | none => rw [hi] at h; cases h
 | some i =>
  rw [hi] at h
  simp at h
  simp [sizeOf, typeInfo, hi, h]
theorem ld1_sound (h : R C σ) {x : V} {c : Value} (hx : VR C x c) {K : V → Prop} (hk : ld1K x σ K) {t : TypeId} (ha : aggP P t = some false) :
  Done C (fun v σ' => σ' = σ ∧ K v) ((Instr.loadAt t c).run P C.w) := by
 obtain ⟨blk, o, v, cv, rfl, hc, hv, hk⟩ := ld1_cell h hx hk
 have : (Instr.loadAt t (.pointer (some ⟨blk, o, none⟩))).run P C.w = .ok cv C.w := by
  simp [Instr.loadAt, Instr.sureAddr, loadVar, run_isAgg_false ha, hc]
 rw [this]
 exact Done.same h hv ⟨rfl, hk⟩
theorem ldA_cells (h : R C σ) {n : Nat} {x : V} {c : Value} (hx : VR C x c) {K : V → Prop} (hk : ldAK n x σ K) :
  ∃ (blk o : Nat) (xs : List V) (cs : List Value), c = .pointer (some ⟨blk, o, none⟩) ∧ cs.length = n ∧ (∀ (j : Nat) (u : Value), cs[j]? = some u → C.w.cell? ⟨blk, o + j, none⟩ = some u) ∧ VR C (.agg xs) (.agg cs.toArray) ∧ K (.agg xs) := by
 cases x <;> simp only [ldAK] at hk
 case p id ver off =>
  split at hk
  ·rename_i v cells ho
   obtain ⟨rfl, hoff, hk⟩ := hk
   obtain ⟨blk, bs, cc, t, rfl, hρ, hb, hl, h1, hv⟩ := ptr_row h ho hx
   have hlen : ((cc.toList.drop (bs + off)).take n).length = n := by simp; omega
   refine ⟨blk, bs + off, _, (cc.toList.drop (bs + off)).take n, rfl, hlen, fun j u hu => ?_, .agg _ _ (by simp; omega) (fun c hc => ?_) (fun j x c hx hc => ?_), hk⟩
   ·rw [List.getElem?_take] at hu
    split at hu
    ·rw [List.getElem?_drop] at hu
     rw [cell_of hb, ← hu]; simp
    ·cases hu
   ·have : c ∈ cc.toList := List.mem_of_mem_drop (List.mem_of_mem_take (by simpa using hc))
    exact h1 c (by simpa using this)
   ·simp only [List.getElem?_toArray, List.getElem?_take] at hx hc
    split at hx
    ·rename_i hj
     rw [if_pos hj] at hc
     rw [List.getElem?_drop] at hx hc
     refine hv (off + j) x c hx ?_
     rw [← Nat.add_assoc]; simpa using hc
    ·cases hx
  ·exact hk.elim
 case sp cells off =>
  obtain ⟨hoff, hk⟩ := hk
  cases hx with
  | sp _ _ blk base cs hz hl h1 hc hv =>
   have hlen : ((cs.drop off).take n).length = n := by simp; omega
   refine ⟨blk, base + off, _, (cs.drop off).take n, rfl, hlen, fun j u hu => ?_, .agg _ _ (by simp; omega) (fun c hc => ?_) (fun j x c hx hc => ?_), hk⟩
   ·rw [List.getElem?_take] at hu
    split at hu
    ·rw [List.getElem?_drop] at hu
     have := hc _ _ hu
     rwa [← Nat.add_assoc] at this
    ·cases hu
   ·exact h1 c (List.mem_of_mem_drop (List.mem_of_mem_take (by simpa using hc)))
   ·simp only [List.getElem?_toArray, List.getElem?_take] at hx hc
    split at hx
    ·rename_i hj
     rw [if_pos hj] at hc
     rw [List.getElem?_drop] at hx hc
     exact hv (off + j) x c hx hc
    ·cases hx
 all_goals exact hk.elim
theorem ldA_sound (h : R C σ) {n : Nat} {x : V} {c : Value} (hx : VR C x c) {K : V → Prop} (hk : ldAK n x σ K) {t : TypeId} (ha : aggP P t = some true) (hn : szP P t = some n) :
  Done C (fun v σ' => σ' = σ ∧ K v) ((Instr.loadAt t c).run P C.w) := by
 obtain ⟨blk, o, xs, cs, rfl, hl, hc, hv, hk⟩ := ldA_cells h hx hk
 have hlc := run_loadCells_list (P := P) C.w ⟨blk, o, none⟩ cs (fun j v hj => by rw [add_at]; exact hc j v hj)
 rw [hl] at hlc
 have : (Instr.loadAt t (.pointer (some ⟨blk, o, none⟩))).run P C.w = .ok (.agg cs.toArray) C.w := by
  simp [Instr.loadAt, Instr.sureAddr, loadVar, run_isAgg_true ha, run_sizeOf hn, hlc]
 rw [this]
 exact Done.same h hv ⟨rfl, hk⟩
end
section
variable {P : Program} {C : Cx} {σ : List O}
theorem new_row (h : R C σ) {xs : List V} {cs : List Value} (t : TypeId) (hl : cs.length = xs.length) (h1 : ∀ c ∈ cs, one1 c = true)
  (hv : ∀ (j : Nat) (x : V) (c : Value), xs[j]? = some x → cs[j]? = some c → VR C x c) :
  R (C.alloc (.cells cs.toArray t)) (σ ++ [.row 0 xs]) ∧ Ext C (C.alloc (.cells cs.toArray t)) ∧
   (C.alloc (.cells cs.toArray t)).ρ[σ.length]? = some (C.w.heap.size, 0) ∧ (C.alloc (.cells cs.toArray t)).vs[σ.length]? = some 0 ∧
   (C.alloc (.cells cs.toArray t)).w.heap[C.w.heap.size]? = some (.cells cs.toArray t (0, 0)) := by
 have e := alloc_ext h.wf (.cells cs.toArray t)
 have hb : (C.alloc (.cells cs.toArray t)).w.heap[C.w.heap.size]? = some (.cells cs.toArray t (0, 0)) := heap_alloc_eq _ _
 refine ⟨h.alloc _ _ rfl (.row 0 xs cs.toArray t hb (by simp; omega) (by simpa using h1) (fun j x c hx hc => ?_)), e, ?_, ?_, hb⟩
 ·exact (hv j x c hx (by simpa using hc)).ext e h.wf
 ·show (C.ρ ++ _)[σ.length]? = _
  rw [h.len, ← h.wf.len]; simp
 ·show (C.vs ++ _)[σ.length]? = _
  rw [h.len]; simp
theorem alloc_ptr (h : R C σ) {xs : List V} {cs : List Value} (t : TypeId) (hl : cs.length = xs.length) (h1 : ∀ c ∈ cs, one1 c = true)
  (hv : ∀ (j : Nat) (x : V) (c : Value), xs[j]? = some x → cs[j]? = some c → VR C x c) {K : V → List O → Prop} (hk : K (.p σ.length 0 0) (σ ++ [.row 0 xs])) :
  Done C K (.ok (.pointer (some ⟨C.w.heap.size, 0, none⟩)) (C.w.alloc (.cells cs.toArray t))) := by
 obtain ⟨a, b, c, d, e⟩ := new_row h t hl h1 hv
 exact ⟨_, C.alloc (.cells cs.toArray t), _, _, rfl, a, b, .p _ _ _ _ 0 c d, hk⟩
theorem cv1_sound {v : Value} {x : V} (h : cv1 v = some x) (C : Cx) : VR C x v ∧ one1 v = true := by
 unfold cv1 at h
 split at h <;> first | (cases h; done) | skip
 all_goals
  injection h with h
  subst h
  refine ⟨?_, rfl⟩
  first | exact .b _ | exact .i _ _ | exact .str _ | exact .np | exact .ssn _ | exact .nm | exact .nf
theorem cvl_sound (C : Cx) : ∀ {vs : List Value} {xs : List V}, cvl vs = some xs → vs.length = xs.length ∧ (∀ c ∈ vs, one1 c = true) ∧
  ∀ (j : Nat) (x : V) (c : Value), xs[j]? = some x → vs[j]? = some c → VR C x c
 | [], xs, h => by simp [cvl] at h; subst h; simp
 | v :: r, xs, h => by
  simp only [cvl] at h
  split at h
  ·rename_i x ys hx hy
   injection h with h
   subst h
   obtain ⟨a, b, c⟩ := cvl_sound C hy
   obtain ⟨p, q⟩ := cv1_sound hx C
   refine ⟨by simp [a], fun d hd => ?_, fun j y d hy' hd => ?_⟩
   ·rcases List.mem_cons.1 hd with rfl | hd
    ·exact q
    ·exact b d hd
   ·cases j with
    | zero => simp at hy' hd; subst hy'; subst hd; exact p
    | succ j => exact c j y d (by simpa using hy') (by simpa using hd)
  ·cases h
theorem cvV_eq (v : Value) (h : ∀ cs, v ≠ .agg cs) : cvV v = cv1 v := by
 cases v <;> first | rfl | exact absurd rfl (h _)
theorem cvV_sound {v : Value} {x : V} (h : cvV v = some x) (C : Cx) : VR C x v := by
 by_cases hv : ∃ cs, v = .agg cs
 ·obtain ⟨cs, rfl⟩ := hv
  simp only [cvV, Option.map_eq_some_iff] at h
  obtain ⟨l, hl, rfl⟩ := h
  obtain ⟨a, b, c⟩ := cvl_sound C hl
  exact .agg l cs (by simpa using a) (fun d hd => b d (by simpa using hd)) (fun j x d hx hd => c j x d hx (by simpa using hd))
 ·rw [cvV_eq v (fun cs hE => hv ⟨cs, hE⟩)] at h
  exact (cv1_sound h C).1
theorem trX_sound {x : Operand} {y : Od} (h : trX x = some y) {C : Cx} {env : Nat → V} {a : Act} (he : ∀ t, VR C (env t) (a.tmps.getD t undef)) : VR C (y.ev env) (a.eval x) := by
 cases x with
 | tmp t => cases h; exact he t
 | const v =>
  simp only [trX, Option.map_eq_some_iff] at h
  obtain ⟨z, hz, rfl⟩ := h
  exact cvV_sound hz C
 | func f => cases h; exact .f _ _ _ _ _ rfl rfl (by simp) (by simp)
 | global g => cases h
theorem zcP_sound {t : TypeId} {zs : List V} (h : zcP P t = some zs) (C : Cx) : ∃ z : Value, (∀ w, (zeroValue t).run P w = .ok z w) ∧ z.cells.size = zs.length ∧ (∀ c ∈ z.cells, one1 c = true) ∧
  (∀ (j : Nat) (x : V) (c : Value), zs[j]? = some x → z.cells[j]? = some c → VR C x c) ∧ ∃ i, P.info? t = some i ∧ i.zero = some z := by
 unfold zcP at h
 split at h
 ·rename_i i hi
  split at h
  ·rename_i z hz
   obtain ⟨a, b, c⟩ := cvl_sound C h
   refine ⟨z, fun w => by simp [zeroValue, typeInfo, hi, hz], by simpa using a, fun d hd => b d (by simpa using hd), fun j x d hx hd => c j x d hx (by simpa using hd), i, hi, hz⟩
  ·cases h
 ·cases h
theorem alloc_sound (h : R C σ) {t : TypeId} {zs : List V} (hz : zcP P t = some zs) {K : V → List O → Prop} (hk : K (.p σ.length 0 0) (σ ++ [.row 0 zs])) :
  Done C K ((Instr.alloc t true (.tuple #[])).run P C.w) := by
 obtain ⟨z, hr, a, b, c, -⟩ := zcP_sound hz C
 have : (Instr.alloc t true (.tuple #[])).run P C.w = .ok (.pointer (some ⟨C.w.heap.size, 0, none⟩)) (C.w.alloc (.cells z.cells.toList.toArray t)) := by
  simp [Instr.alloc, hr, newVar, newRow]
 rw [this]
 exact alloc_ptr h t (by simpa using a) (fun d hd => b d (by simpa using hd)) (fun j x d hx hd => c j x d hx (by simpa using hd)) hk
theorem box_sound (h : R C σ) {t : TypeId} {x : V} {c : Value} (hx : VR C x c) {cs : List V} (hcs : cellsOf x = some cs) {K : V → List O → Prop} (hk : K (.p σ.length 0 0) (σ ++ [.row 0 cs])) :
  Done C K ((Instr.box t c).run P C.w) := by
 obtain ⟨a, b, d⟩ := hx.cells hcs
 have : (Instr.box t c).run P C.w = .ok (.pointer (some ⟨C.w.heap.size, 0, none⟩)) (C.w.alloc (.cells c.cells.toList.toArray t)) := by
  simp [Instr.box, newVar, newRow]
 rw [this]
 exact alloc_ptr h t (by simpa using a) (fun e he => b e (by simpa using he)) (fun j x e hx he => d j x e hx (by simpa using he)) hk
def CR (C : Cx) (xs : List V) (cs : List Value) : Prop := cs.length = xs.length ∧ (∀ c ∈ cs, one1 c = true) ∧ ∀ (j : Nat) (x : V) (c : Value), xs[j]? = some x → cs[j]? = some c → VR C x c
theorem splice_get {α : Type} (cs vs : List α) (off j : Nat) (h : off + vs.length ≤ cs.length) :
  (cs.take off ++ vs ++ cs.drop (off + vs.length))[j]? = if off ≤ j ∧ j < off + vs.length then vs[j - off]? else cs[j]? := by
 rw [List.append_assoc]
 by_cases h1 : j < off
 ·rw [List.getElem?_append_left (by simp; omega), List.getElem?_take, if_pos h1, if_neg (by omega)]
 ·rw [List.getElem?_append_right (by simp; omega)]
  simp only [List.length_take, Nat.min_eq_left (show off ≤ cs.length by omega)]
  by_cases h2 : j < off + vs.length
  ·rw [List.getElem?_append_left (by omega), if_pos (by omega)]
  ·rw [List.getElem?_append_right (by omega), List.getElem?_drop, if_neg (by omega)]
   congr 1; omega
theorem splice_len {α : Type} (cs vs : List α) (off : Nat) (h : off + vs.length ≤ cs.length) : (cs.take off ++ vs ++ cs.drop (off + vs.length)).length = cs.length := by
 simp; omega
theorem CR.splice {xs : List V} {cs : List Value} (h : CR C xs cs) {ys : List V} {ds : List Value} (k : CR C ys ds) {off : Nat} (hl : off + ys.length ≤ xs.length) :
  CR C (splice xs off ys) (cs.take off ++ ds ++ cs.drop (off + ds.length)) := by
 have hl' : off + ds.length ≤ cs.length := by have := h.1; have := k.1; omega
 refine ⟨?_, fun c hc => ?_, fun j x c hx hc => ?_⟩
 ·rw [splice_len _ _ _ hl']; unfold Ab.splice; rw [splice_len _ _ _ hl]; exact h.1
 ·simp only [List.mem_append] at hc
  rcases hc with (hc | hc) | hc
  ·exact h.2.1 c (List.mem_of_mem_take hc)
  ·exact k.2.1 c hc
  ·exact h.2.1 c (List.mem_of_mem_drop hc)
 ·unfold Ab.splice at hx
  rw [splice_get _ _ _ _ hl] at hx
  rw [splice_get _ _ _ _ hl', k.1] at hc
  split at hx
  ·rename_i hj; rw [if_pos hj] at hc; exact k.2.2 _ x c hx hc
  ·rename_i hj; rw [if_neg hj] at hc; exact h.2.2 _ x c hx hc
theorem foldl_set (vs : List Value) (off : Nat) : ∀ (k : Nat) (cs : Array Value), (hlen : off + k + vs.length ≤ cs.size) →
  ((vs.zipIdx k).foldl (fun (cs : Array Value) (p : Value × Nat) => cs.setIfInBounds (off + p.2) p.1) cs).toList = cs.toList.take (off + k) ++ vs ++ cs.toList.drop (off + k + vs.length) := by
 induction vs with
 | nil => intro k cs h; simp
 | cons v vs ih =>
  intro k cs h
  simp only [List.length_cons] at h
  rw [List.zipIdx_cons, List.foldl_cons, ih (k + 1) _ (by simp; omega)]
  have e := list_seg_step cs.toList (off + k) v vs (by simp; omega)
  simpa [Array.toList_setIfInBounds, Nat.add_assoc, Nat.add_comm, Nat.add_left_comm] using e
theorem fill_sound (h : True) : ∀ (ps : List (Nat × Nat × V)) (qs : List (Nat × Value)) (place : Nat → Option (Nat × Nat)) (zs cs' : List V) (cells : Array Value),
  ps.length = qs.length → (∀ (j : Nat) (o s : Nat) (x : V) (i : Nat) (c : Value), ps[j]? = some (o, s, x) → qs[j]? = some (i, c) → place i = some (o, s) ∧ VR C x c) →
  CR C zs cells.toList → fillV zs ps = some cs' → ∃ out, Instr.fill place cells qs = some out ∧ CR C cs' out.toList
 | [], [], place, zs, cs', cells, hl, hp, hc, hf => by
  simp only [fillV, Option.some.injEq] at hf
  subst hf
  exact ⟨cells, rfl, hc⟩
 | (o, s, x) :: ps, (i, c) :: qs, place, zs, cs', cells, hl, hp, hc, hf => by
  obtain ⟨hpl, hx⟩ := hp 0 o s x i c rfl rfl
  simp only [fillV] at hf
  split at hf
  ·rename_i vs hvs
   split at hf
   ·rename_i hcond
    obtain ⟨h1, h2⟩ := hcond
    obtain ⟨a, b, d⟩ := hx.cells hvs
    have hsz : cells.size = zs.length := by have := hc.1; simpa using this
    have hcr : CR C vs c.cells.toList := ⟨by simpa using a, fun e he => b e (by simpa using he), fun j y e hy he => d j y e hy (by simpa using he)⟩
    have hfold := foldl_set c.cells.toList o 0 cells (by simp; omega)
    have hsp := hc.splice hcr (off := o) (by omega)
    obtain ⟨out, ho, hout⟩ := fill_sound h ps qs place _ cs' (c.cells.zipIdx.foldl (fun cs (p : Value × Nat) => cs.setIfInBounds (o + p.2) p.1) cells) (by simpa using hl)
     (fun j o' s' x' i' c' hj hk => hp (j + 1) o' s' x' i' c' (by simpa using hj) (by simpa using hk))
     (by
      rw [← Array.foldl_toList, Array.toList_zipIdx, hfold]
      simpa using hsp) hf
    refine ⟨out, ?_, hout⟩
    simp only [Instr.fill, hpl]
    have hng : ¬ ((decide (c.cells.size ≠ s) || decide (o + c.cells.size > cells.size)) = true) := by
     simp only [Bool.or_eq_true, decide_eq_true_eq]
     rintro (h3 | h3)
     ·exact h3 (a.trans h1)
     ·omega
    rw [if_neg hng]
    exact ho
   ·cases hf
  ·cases hf
 | [], _ :: _, _, _, _, _, hl, _, _, _ => by simp at hl
 | _ :: _, [], _, _, _, _, hl, _, _, _ => by simp at hl
end
end Go.Ab
end
section
namespace Go.Ab
open Go
section
variable {P : Program} {C : Cx} {σ : List O}
theorem run_places : ∀ (l : List Field), (l.all (fun f => (szP P f.type).isSome)) = true → ∀ w,
  (l.mapM (fun f => do pure (f.offset, ← sizeOf f.type) : Field → Sem (Nat × Nat))).run P w = .ok (l.map fun f => (f.offset, (szP P f.type).getD 0)) w
 | [], _, w => by simp
 | f :: l, h, w => by
  simp only [List.all_cons, Bool.and_eq_true] at h
  obtain ⟨n, hn⟩ := Option.isSome_iff_exists.1 h.1
  simp only [List.mapM_cons, Sem.run_bind, run_sizeOf hn, Result.andThen_ok, Sem.run_pure, run_places l h.2 w]
  simp [hn]
theorem build_struct (h : R C σ) {t : TypeId} {fs : Array Field} (ht : P.underlying t = some (.struct fs)) (hall : (fs.toList.all (fun f => (szP P f.type).isSome)) = true)
  {zs : List V} (hz : zcP P t = some zs) {ps : List (Nat × Nat × V)} {qs : List (Nat × Value)} (hl : ps.length = qs.length)
  (hp : ∀ (j : Nat) (o s : Nat) (x : V) (i : Nat) (c : Value), ps[j]? = some (o, s, x) → qs[j]? = some (i, c) → (∃ f, fs[i]? = some f ∧ f.offset = o ∧ szP P f.type = some s) ∧ VR C x c)
  {cs : List V} (hf : fillV zs ps = some cs) {K : V → List O → Prop} (hk : K (.agg cs) σ) : Done C K ((Instr.build t qs.toArray).run P C.w) := by
 obtain ⟨z, hr, a, b, c, -⟩ := zcP_sound hz C
 have hpl := run_places (P := P) fs.toList hall
 have hm : ∀ w, (fs.mapM (fun f => do pure (f.offset, ← sizeOf f.type) : Field → Sem (Nat × Nat))).run P w = .ok ((fs.toList.map fun f => (f.offset, (szP P f.type).getD 0)).toArray) w := by
  intro w
  have e : fs = fs.toList.toArray := by simp
  rw [e, List.mapM_toArray]
  simp only [Sem.run_map, hpl w, Result.andThen_ok]
 obtain ⟨out, ho, hout⟩ := fill_sound (C := C) trivial ps qs ((fs.toList.map fun f => (f.offset, (szP P f.type).getD 0)).toArray[·]?) zs cs z.cells hl
  (fun j o s x i c hj hq => by
   obtain ⟨⟨f, hfi, h1, h2⟩, hx⟩ := hp j o s x i c hj hq
   refine ⟨?_, hx⟩
   have : fs.toList[i]? = some f := by simpa using hfi
   simp [this, hfi, h1, h2])
  ⟨by simpa using a, fun d hd => b d (by simpa using hd), fun j x d hx hd => c j x d hx (by simpa using hd)⟩ hf
 have : (Instr.build t qs.toArray).run P C.w = .ok (.agg out) C.w := by
  simp only [Instr.build, Sem.run_bind, hr, Result.andThen_ok, run_underlying ht, hm, List.toList_toArray]
  rw [ho]
  simp
 rw [this]
 exact Done.same h (.agg cs out (by have := hout.1; simpa using this) (fun c hc => hout.2.1 c (by simpa using hc)) (fun j x c hx hc => hout.2.2 j x c hx (by simpa using hc))) hk
theorem build_array (h : R C σ) {t e : TypeId} {n sz : Nat} (ht : P.underlying t = some (.array n e)) (hs : szP P e = some sz)
  {zs : List V} (hz : zcP P t = some zs) {ps : List (Nat × Nat × V)} {qs : List (Nat × Value)} (hl : ps.length = qs.length)
  (hp : ∀ (j : Nat) (o s : Nat) (x : V) (i : Nat) (c : Value), ps[j]? = some (o, s, x) → qs[j]? = some (i, c) → (o = i * sz ∧ s = sz) ∧ VR C x c)
  {cs : List V} (hf : fillV zs ps = some cs) {K : V → List O → Prop} (hk : K (.agg cs) σ) : Done C K ((Instr.build t qs.toArray).run P C.w) := by
 obtain ⟨z, hr, a, b, c, -⟩ := zcP_sound hz C
 obtain ⟨out, ho, hout⟩ := fill_sound (C := C) trivial ps qs (fun i => some (i * sz, sz)) zs cs z.cells hl
  (fun j o s x i c hj hq => by
   obtain ⟨⟨h1, h2⟩, hx⟩ := hp j o s x i c hj hq
   exact ⟨by rw [h1, h2], hx⟩)
  ⟨by simpa using a, fun d hd => b d (by simpa using hd), fun j x d hx hd => c j x d hx (by simpa using hd)⟩ hf
 have : (Instr.build t qs.toArray).run P C.w = .ok (.agg out) C.w := by
  simp only [Instr.build, Sem.run_bind, hr, Result.andThen_ok, run_underlying ht, run_sizeOf hs, List.toList_toArray]
  rw [ho]
  simp
 rw [this]
 exact Done.same h (.agg cs out (by have := hout.1; simpa using this) (fun c hc => hout.2.1 c (by simpa using hc)) (fun j x c hx hc => hout.2.2 j x c hx (by simpa using hc))) hk
theorem rep_len (n : Nat) (zs : List V) : (rep n zs).length = n * zs.length := by
 induction n with
 | zero => simp [rep]
 | succ n ih => simp only [rep, List.replicate_succ, List.flatten_cons, List.length_append] at *; rw [ih, Nat.succ_mul, Nat.add_comm]
theorem rep_get (n : Nat) (zs : List V) (j : Nat) (h : j < n * zs.length) : (rep n zs)[j]? = zs[j % zs.length]? := by
 induction n generalizing j with
 | zero => omega
 | succ n ih =>
  show (zs ++ rep n zs)[j]? = _
  by_cases hj : j < zs.length
  ·rw [List.getElem?_append_left hj, Nat.mod_eq_of_lt hj]
  ·have h1 : j - zs.length < n * zs.length := by rw [Nat.succ_mul] at h; omega
   rw [List.getElem?_append_right (by omega), ih _ h1]
   congr 1
   rw [← Nat.mod_eq_sub_mod (by omega)]
theorem zeros_cr {zs : List V} {z : Array Value} (a : z.size = zs.length) (b : ∀ c ∈ z, one1 c = true) (c : ∀ (j : Nat) (x : V) (c : Value), zs[j]? = some x → z[j]? = some c → VR C x c) (n : Nat) :
  CR C (rep n zs) ((Array.range (n * z.size)).map (z[· % z.size]!)).toList := by
 have key : ∀ j, j < n * z.size → 0 < z.size := fun j hj => by
  rcases Nat.eq_zero_or_pos z.size with h0 | h0
  ·rw [h0] at hj; omega
  ·exact h0
 have hg : ∀ (j : Nat) (d : Value), ((Array.range (n * z.size)).map (z[· % z.size]!)).toList[j]? = some d → j < n * z.size ∧ z[j % z.size]? = some d := by
  intro j d hd
  simp only [Array.toList_map, Array.toList_range, List.getElem?_map, Option.map_eq_some_iff] at hd
  obtain ⟨i, hi, rfl⟩ := hd
  obtain ⟨hlt, rfl⟩ := List.getElem?_eq_some_iff.1 hi
  simp at hlt
  have hz := key j hlt
  have hm := Nat.mod_lt j hz
  refine ⟨hlt, ?_⟩
  simp [getElem!_pos, hm]
 refine ⟨by simp [rep_len, a], fun d hd => ?_, fun j x d hx hd => ?_⟩
 ·obtain ⟨j, hj⟩ := List.mem_iff_getElem?.1 hd
  obtain ⟨h1, h2⟩ := hg j d hj
  exact b d (Array.mem_of_getElem? h2)
 ·obtain ⟨h1, h2⟩ := hg j d hd
  rw [rep_get n zs j (by rw [← a]; exact h1)] at hx
  exact c _ x d hx (by rw [← a]; exact h2)
theorem bsl_sound (h : R C σ) {t e : TypeId} {sz len : Nat} (ht : P.underlying t = some (.slice e)) (hs : szP P e = some sz) {z : List V} (hz : zcP P e = some z) (hzl : z.length = sz)
  (hbig : len * sz ≤ 16777216) {ps : List (Nat × Nat × V)} {qs : List (Nat × Value)} (hl : ps.length = qs.length)
  (hp : ∀ (j : Nat) (o s : Nat) (x : V) (i : Nat) (c : Value), ps[j]? = some (o, s, x) → qs[j]? = some (i, c) → (o = i * sz ∧ s = sz) ∧ VR C x c)
  {cs : List V} (hf : fillV (rep len z) ps = some cs) (frz : Bool) {K : V → List O → Prop}
  (hk : if frz then K (.ss cs len true) σ else K (.s σ.length 0 0 len sz) (σ ++ [.row 0 cs])) : Done C K ((Instr.buildSlice t len qs.toArray).run P C.w) := by
 obtain ⟨zv, hr, a, b, c, -⟩ := zcP_sound hz C
 have hzs : zv.cells.size = sz := by rw [a, hzl]
 have hcr := zeros_cr (C := C) a b c len
 rw [hzs] at hcr
 obtain ⟨out, ho, hout⟩ := fill_sound (C := C) trivial ps qs (fun i => some (i * sz, sz)) (rep len z) cs ((Array.range (len * sz)).map (zv.cells[· % sz]!)) hl
  (fun j o s x i c hj hq => by
   obtain ⟨⟨h1, h2⟩, hx⟩ := hp j o s x i c hj hq
   exact ⟨by rw [h1, h2], hx⟩) hcr hf
 have hoe : out = out.toList.toArray := by simp
 have hrun : (Instr.buildSlice t len qs.toArray).run P C.w = .ok (.slice (some ⟨C.w.heap.size, 0, none⟩) len len) (C.w.alloc (.cells out.toList.toArray e)) := by
  simp only [Instr.buildSlice, Sem.run_bind, run_underlying ht, Result.andThen_ok, run_sizeOf hs]
  rw [if_neg (by simp; omega)]
  by_cases h0 : len * sz = 0
  ·rw [h0] at ho
   simp only [h0, if_true, Sem.run_bind, Sem.run_pure, Result.andThen_ok, List.toList_toArray]
   have : (Array.range 0).map ((#[] : Array Value)[· % (#[] : Array Value).size]!) = (Array.range 0).map (zv.cells[· % sz]!) := by simp
   rw [this, ho]
   simp [newRow]
  ·simp only [h0, if_false, Sem.run_bind, hr, Sem.run_pure, Result.andThen_ok, List.toList_toArray, hzs]
   rw [ho]
   simp [newRow]
 rw [hrun]
 have hlen : cs.length = len * sz := by
  have h1 := hout.1
  have h2 := hcr.1
  have h3 : ∀ (ps : List (Nat × Nat × V)) (zs cs : List V), fillV zs ps = some cs → cs.length = zs.length := by
   intro ps
   induction ps with
   | nil => intro zs cs hf; simp [fillV] at hf; rw [hf]
   | cons p ps ih =>
    intro zs cs hf
    simp only [fillV] at hf
    split at hf
    ·split at hf
     ·rename_i hc
      rw [ih _ _ hf]
      unfold splice
      exact splice_len _ _ _ (by omega)
     ·cases hf
    ·cases hf
  rw [h3 _ _ _ hf, rep_len, hzl]
 cases frz with
 | true =>
  simp only [if_true] at hk
  have hb : (C.allocZ (.cells out.toList.toArray e)).w.heap[C.w.heap.size]? = some (.cells out.toList.toArray e (0, 0)) := heap_alloc_eq _ _
  refine ⟨_, C.allocZ (.cells out.toList.toArray e), .ss cs len true, σ, rfl, h.allocZ _, allocZ_ext h.wf _, ?_, hk⟩
  refine .ss cs len true C.w.heap.size 0 len out.toList (.inr rfl) hout.1 hout.2.1 (fun j u hj => ?_) (fun j x u hx hj => (hout.2.2 j x u hx hj).ext (allocZ_ext h.wf _) h.wf) (Nat.le_refl _) (fun _ => rfl)
  rw [cell_of hb]; simpa using hj
 | false =>
  simp only [Bool.false_eq_true, if_false] at hk
  obtain ⟨r1, r2, r3, r4, r5⟩ := new_row h e hout.1 hout.2.1 hout.2.2
  refine ⟨_, C.alloc (.cells out.toList.toArray e), _, _, rfl, r1, r2, ?_, hk⟩
  refine .s _ _ _ _ _ C.w.heap.size 0 0 len out.toList.toArray e r3 r4 (Nat.le_refl _) r5 ?_ (fun _ => rfl)
  have := hout.1
  simp only [List.size_toArray]
  omega
theorem write_row (h : R C σ) {id ver off blk bs : Nat} {cells : List V} (ho : σ[id]? = some (.row ver cells)) (hρ : C.ρ[id]? = some (blk, bs)) {cc : Array Value} {t : TypeId}
  (hb : C.w.heap[blk]? = some (.cells cc t (0, 0))) (hl : bs + cells.length ≤ cc.size) (h1 : ∀ c ∈ cc, one1 c = true)
  (hv : ∀ (j : Nat) (x : V) (c : Value), cells[j]? = some x → cc[bs + j]? = some c → VR C x c) {xs : List V} {cs : List Value} (hcr : CR C xs cs) (hoff : off + xs.length ≤ cells.length) :
  R (C.turn id blk bs ver (C.w.setRow blk (cc.toList.take (bs + off) ++ cs ++ cc.toList.drop (bs + off + cs.length)).toArray)) (σ.set id (.row ver (splice cells off xs))) ∧
  Ext C (C.turn id blk bs ver (C.w.setRow blk (cc.toList.take (bs + off) ++ cs ++ cc.toList.drop (bs + off + cs.length)).toArray)) := by
 have hlc : bs + off + cs.length ≤ cc.toList.length := by have := hcr.1; simp; omega
 have hsz := splice_len cc.toList cs (bs + off) hlc
 have hb' := setRow_heap C.w blk cc (cc.toList.take (bs + off) ++ cs ++ cc.toList.drop (bs + off + cs.length)).toArray t (0, 0) hb
 refine h.turn (o' := .row ver (splice cells off xs)) ho hρ (.inl ⟨rfl, rfl⟩) rfl rfl rfl (by simp) (fun b _ hne => setRow_other _ _ _ _ hne) (fun cc' t' hc => ?_) (fun e => ?_)
 ·rw [hb] at hc; cases hc
  exact ⟨_, hb', by simpa using hsz⟩
 ·refine .row ver _ _ t hb' ?_ (fun c hc => ?_) (fun j x c hx hc => ?_)
  ·unfold splice; rw [splice_len _ _ _ hoff]; simp at hsz ⊢; omega
  ·simp only [List.mem_toArray, List.mem_append] at hc
   rcases hc with (hc | hc) | hc
   ·exact h1 c (by simpa using List.mem_of_mem_take hc)
   ·exact hcr.2.1 c hc
   ·exact h1 c (by simpa using List.mem_of_mem_drop hc)
  ·unfold splice at hx
   rw [splice_get _ _ _ _ hoff] at hx
   rw [List.getElem?_toArray, splice_get _ _ _ _ hlc, hcr.1] at hc
   split at hx
   ·rename_i hj
    rw [if_pos (by omega), show bs + j - (bs + off) = j - off by omega] at hc
    exact (hcr.2.2 _ x c hx hc).ext e h.wf
   ·rename_i hj
    rw [if_neg (by omega)] at hc
    exact (hv j x c hx (by simpa using hc)).ext e h.wf
theorem run_storeAt {t : TypeId} {n : Nat} (hn : szP P t = some n) {w : World} {blk o : Nat} {c : Value} (hs : c.cells.size = n) {cc : Array Value} {t' : TypeId}
  (hb : w.heap[blk]? = some (.cells cc t' (0, 0))) (hl : o + n ≤ cc.size) (h1 : ∀ d ∈ c.cells, one1 d = true) :
  (Instr.storeAt t (.pointer (some ⟨blk, o, none⟩)) c).run P w = .ok () (w.setRow blk (cc.toList.take o ++ c.cells.toList ++ cc.toList.drop (o + c.cells.toList.length)).toArray) := by
 have hst := run_storeCells_at P blk o t' c.cells.toList 0 cc w hb (by simp; omega) (fun v hv => h1 v (by simpa using hv))
 simp only [Instr.storeAt, Instr.sureAddr, Sem.run_bind, Sem.run_pure, Result.andThen_ok, storeVar, run_sizeOf hn]
 rw [if_neg (by simpa using hs)]
 simpa using hst
def DoneU (C : Cx) (K : V → List O → Prop) (r : Result Unit) : Prop :=
 ∃ C' σ', r = .ok () C'.w ∧ R C' σ' ∧ Ext C C' ∧ K .u σ'
theorem st1_sound (h : R C σ) {a x : V} {ca cx : Value} (ha : VR C a ca) (hx : VR C x cx) {K : V → List O → Prop} (hk : st1K a x σ K) {t : TypeId} (hn : szP P t = some 1) :
  DoneU C K ((Instr.storeAt t ca cx).run P C.w) := by
 cases a <;> simp only [st1K] at hk
 case p id ver off =>
  split at hk
  ·rename_i v cells ho
   obtain ⟨rfl, hoff, hc1, hk⟩ := hk
   obtain ⟨blk, bs, cc, t', rfl, hρ, hb, hl, h1, hv⟩ := ptr_row h ho ha
   obtain ⟨p1, p2, p3⟩ := hx.cells hc1
   have hcr : CR C [x] cx.cells.toList := ⟨by simpa using p1, fun d hd => p2 d (by simpa using hd), fun j y d hy hd => p3 j y d hy (by simpa using hd)⟩
   rw [run_storeAt hn (by simpa using p1) hb (by omega) p2]
   obtain ⟨r1, r2⟩ := write_row h ho hρ hb hl h1 hv hcr (off := off) (by simp; omega)
   refine ⟨_, _, rfl, r1, r2, ?_⟩
   have : splice cells off [x] = cells.set off x := by
    apply List.ext_getElem?
    intro j
    unfold splice
    rw [splice_get _ _ _ _ (by simp; omega)]
    by_cases hj : j = off
    ·subst hj; simp [hoff]
    ·rw [if_neg (by simp; omega), List.getElem?_set_ne (fun e => hj e.symm)]
   rw [this]; exact hk
  ·exact hk.elim
 all_goals exact hk.elim
theorem stA_sound (h : R C σ) {n : Nat} {a x : V} {ca cx : Value} (ha : VR C a ca) (hx : VR C x cx) {K : V → List O → Prop} (hk : stAK n a x σ K) {t : TypeId} (hn : szP P t = some n) :
  DoneU C K ((Instr.storeAt t ca cx).run P C.w) := by
 cases a <;> simp only [stAK] at hk
 case p id ver off =>
  cases x <;> simp only at hk
  case agg xs =>
   split at hk
   ·rename_i v cells ho
    obtain ⟨rfl, hlen, hoff, hk⟩ := hk
    obtain ⟨blk, bs, cc, t', rfl, hρ, hb, hl, h1, hv⟩ := ptr_row h ho ha
    obtain ⟨p1, p2, p3⟩ := hx.cells rfl
    have hcr : CR C xs cx.cells.toList := ⟨by simpa using p1, fun d hd => p2 d (by simpa using hd), fun j y d hy hd => p3 j y d hy (by simpa using hd)⟩
    rw [run_storeAt hn (by omega) hb (by omega) p2]
    obtain ⟨r1, r2⟩ := write_row h ho hρ hb hl h1 hv hcr (off := off) (by omega)
    exact ⟨_, _, rfl, r1, r2, hk⟩
   ·exact hk.elim
  all_goals exact hk.elim
 all_goals exact hk.elim
end
end Go.Ab
end
section
namespace Go.Ab
open Go
section
variable {P : Program} {C : Cx} {σ : List O}
theorem beq_dec (a b : Int) : (a == b) = decide (a = b) := by
 by_cases h : a = b <;> simp [h]
theorem int_inv {k : IntKind} {n : Int} {c : Value} (h : VR C (.i k n) c) : c = .int k n := by cases h; rfl
theorem bool_inv {x : Bool} {c : Value} (h : VR C (.b x) c) : c = .bool x := by cases h; rfl
theorem bin_sound (h : R C σ) {op : BinOp} {x y : V} {cx cy : Value} (hx : VR C x cx) (hy : VR C y cy) {K : V → Prop} (hk : binK op x y K) (t : TypeId) (ox oy : Operand) :
  Done C (fun v σ' => σ' = σ ∧ K v) ((do eqGuard op t ox oy cx cy; binOp op t cx cy : Sem Value).run P C.w) := by
 unfold binK at hk
 split at hk
 ·rename_i k a k' b
  obtain rfl := int_inv hx
  obtain rfl := int_inv hy
  have hg : (eqGuard op t ox oy (.int k a) (.int k' b)).run P C.w = .ok () C.w := by
   unfold eqGuard; cases op <;> simp
  simp only [Sem.run_bind, hg, Result.andThen_ok]
  cases op <;> simp only at hk
  case shl =>
   have : (binOp .shl t (.int k a) (.int k' b)).run P C.w = .ok (.int k (k.wrap (a * 2 ^ (min b.toNat k.bits)))) C.w := by
    simp [binOp, Op.shift, show ¬ b < 0 by omega]
   rw [this]; exact Done.same h (.i _ _) ⟨rfl, hk.2⟩
  case shr =>
   have : (binOp .shr t (.int k a) (.int k' b)).run P C.w = .ok (.int k (a.fdiv (2 ^ (min b.toNat k.bits)))) C.w := by
    simp [binOp, Op.shift, show ¬ b < 0 by omega]
   rw [this]; exact Done.same h (.i _ _) ⟨rfl, hk.2⟩
  case quo =>
   obtain ⟨rfl, hb, hk⟩ := hk
   have : (binOp .quo t (.int k a) (.int k b)).run P C.w = .ok (.int k (k.wrap (a.tdiv b))) C.w := by simp [binOp, Op.intDiv, hb]
   rw [this]; exact Done.same h (.i _ _) ⟨rfl, hk⟩
  case rem =>
   obtain ⟨rfl, hb, hk⟩ := hk
   have : (binOp .rem t (.int k a) (.int k b)).run P C.w = .ok (.int k (a.tmod b)) C.w := by simp [binOp, Op.intDiv, hb]
   rw [this]; exact Done.same h (.i _ _) ⟨rfl, hk⟩
  case add =>
   obtain ⟨rfl, hk⟩ := hk
   have : (binOp .add t (.int k a) (.int k b)).run P C.w = .ok (.int k (k.wrap (a + b))) C.w := by simp [binOp, Op.intArith]
   rw [this]; exact Done.same h (.i _ _) ⟨rfl, hk⟩
  case sub =>
   obtain ⟨rfl, hk⟩ := hk
   have : (binOp .sub t (.int k a) (.int k b)).run P C.w = .ok (.int k (k.wrap (a - b))) C.w := by simp [binOp, Op.intArith]
   rw [this]; exact Done.same h (.i _ _) ⟨rfl, hk⟩
  case mul =>
   obtain ⟨rfl, hk⟩ := hk
   have : (binOp .mul t (.int k a) (.int k b)).run P C.w = .ok (.int k (k.wrap (a * b))) C.w := by simp [binOp, Op.intArith]
   rw [this]; exact Done.same h (.i _ _) ⟨rfl, hk⟩
  case and =>
   obtain ⟨rfl, hk⟩ := hk
   have : (binOp .and t (.int k a) (.int k b)).run P C.w = .ok (.int k (bitop .and k a b)) C.w := by simp [binOp, Op.intBits, bitop]
   rw [this]; exact Done.same h (.i _ _) ⟨rfl, hk⟩
  case or =>
   obtain ⟨rfl, hk⟩ := hk
   have : (binOp .or t (.int k a) (.int k b)).run P C.w = .ok (.int k (bitop .or k a b)) C.w := by simp [binOp, Op.intBits, bitop]
   rw [this]; exact Done.same h (.i _ _) ⟨rfl, hk⟩
  case xor =>
   obtain ⟨rfl, hk⟩ := hk
   have : (binOp .xor t (.int k a) (.int k b)).run P C.w = .ok (.int k (bitop .xor k a b)) C.w := by simp [binOp, Op.intBits, bitop]
   rw [this]; exact Done.same h (.i _ _) ⟨rfl, hk⟩
  case andNot =>
   obtain ⟨rfl, hk⟩ := hk
   have : (binOp .andNot t (.int k a) (.int k b)).run P C.w = .ok (.int k (bitop .andNot k a b)) C.w := by simp [binOp, Op.intBits, bitop]
   rw [this]; exact Done.same h (.i _ _) ⟨rfl, hk⟩
  case eql =>
   obtain ⟨rfl, hk⟩ := hk
   have : (binOp .eql t (.int k a) (.int k b)).run P C.w = .ok (.bool (decide (a = b))) C.w := by
    simp only [binOp, Op.intCmp, ne_eq, not_true_eq_false, if_false, Sem.run_pure, beq_dec]
   rw [this]; exact Done.same h (.b _) ⟨rfl, hk⟩
  case neq =>
   obtain ⟨rfl, hk⟩ := hk
   have : (binOp .neq t (.int k a) (.int k b)).run P C.w = .ok (.bool (!decide (a = b))) C.w := by
    simp only [binOp, Op.intCmp, ne_eq, not_true_eq_false, if_false, Sem.run_pure, bne, beq_dec]
   rw [this]; exact Done.same h (.b _) ⟨rfl, hk⟩
  case lss =>
   obtain ⟨rfl, hk⟩ := hk
   have : (binOp .lss t (.int k a) (.int k b)).run P C.w = .ok (.bool (decide (a < b))) C.w := by simp [binOp, Op.intCmp]
   rw [this]; exact Done.same h (.b _) ⟨rfl, hk⟩
  case leq =>
   obtain ⟨rfl, hk⟩ := hk
   have : (binOp .leq t (.int k a) (.int k b)).run P C.w = .ok (.bool (decide (a ≤ b))) C.w := by simp [binOp, Op.intCmp]
   rw [this]; exact Done.same h (.b _) ⟨rfl, hk⟩
  case gtr =>
   obtain ⟨rfl, hk⟩ := hk
   have : (binOp .gtr t (.int k a) (.int k b)).run P C.w = .ok (.bool (decide (b < a))) C.w := by simp [binOp, Op.intCmp]
   rw [this]; exact Done.same h (.b _) ⟨rfl, hk⟩
  case geq =>
   obtain ⟨rfl, hk⟩ := hk
   have : (binOp .geq t (.int k a) (.int k b)).run P C.w = .ok (.bool (decide (b ≤ a))) C.w := by simp [binOp, Op.intCmp]
   rw [this]; exact Done.same h (.b _) ⟨rfl, hk⟩
 ·exact hk.elim
theorem intsOf_sound : ∀ {xs : List V} {a : List Int} {cs : List Value}, intsOf xs = some a → cs.length = xs.length →
  (∀ (j : Nat) (x : V) (c : Value), xs[j]? = some x → cs[j]? = some c → VR C x c) → a.length = cs.length ∧ ∀ (j : Nat) (c : Value), cs[j]? = some c → ∃ k n, c = .int k n ∧ a[j]? = some n
 | [], a, cs, h, hl, hv => by
  simp [intsOf] at h; subst h
  have : cs = [] := List.eq_nil_of_length_eq_zero hl
  subst this; simp
 | x :: xs, a, [], h, hl, hv => by simp at hl
 | x :: xs, a, c :: cs, h, hl, hv => by
  cases x <;> simp only [intsOf, reduceCtorEq] at h
  case i k n =>
   simp only [Option.map_eq_some_iff] at h
   obtain ⟨b, hb, rfl⟩ := h
   obtain ⟨p, q⟩ := intsOf_sound hb (by simpa using hl) (fun j y d hy hd => hv (j + 1) y d (by simpa using hy) (by simpa using hd))
   refine ⟨by simp [p], fun j d hd => ?_⟩
   cases j with
   | zero => simp at hd; subst hd; exact ⟨k, n, int_inv (hv 0 _ _ rfl rfl), rfl⟩
   | succ j => exact q j d (by simpa using hd)
theorem not_sound (h : R C σ) {x : V} {c : Value} (hx : VR C x c) {K : V → List O → Prop} (hk : match x with | .b t => K (.b (!t)) σ | _ => False) :
  Done C K ((Op.unary .not c).run P C.w) := by
 cases x <;> simp only at hk
 case b t =>
  obtain rfl := bool_inv hx
  simp only [Op.unary, Sem.run_pure]
  exact Done.same h (.b _) hk
 all_goals exact hk.elim
theorem neg_sound (h : R C σ) {x : V} {c : Value} (hx : VR C x c) {K : V → List O → Prop} (hk : match x with | .i k n => K (.i k (k.wrap (0 - n))) σ | _ => False) :
  Done C K ((Op.unary .neg c).run P C.w) := by
 cases x <;> simp only at hk
 case i k n =>
  obtain rfl := int_inv hx
  simp only [Op.unary, Op.intArith, Sem.run_pure]
  exact Done.same h (.i _ _) hk
 all_goals exact hk.elim
theorem com_sound (h : R C σ) {x : V} {c : Value} (hx : VR C x c) {K : V → List O → Prop} (hk : match x with | .i k n => K (.i k (bitop .xor k (if k.signed then -1 else k.max) n)) σ | _ => False) :
  Done C K ((Op.unary .xor c).run P C.w) := by
 cases x <;> simp only at hk
 case i k n =>
  obtain rfl := int_inv hx
  have : (Op.unary .xor (.int k n)).run P C.w = .ok (.int k (bitop .xor k (if k.signed then -1 else k.max) n)) C.w := by simp [Op.unary, Op.intBits, bitop]
  rw [this]
  exact Done.same h (.i _ _) hk
 all_goals exact hk.elim
theorem conv_sound (h : R C σ) {k : IntKind} {x : V} {c : Value} (hx : VR C x c) {K : V → List O → Prop} (hk : match x with | .i _ n => K (.i k (k.wrap n)) σ | _ => False)
  {src dst : TypeId} (hs : (P.underlying src).isSome = true) (hd : P.underlying dst = some (.int k)) : Done C K ((convert src dst c).run P C.w) := by
 cases x <;> simp only at hk
 case i k' n =>
  obtain rfl := int_inv hx
  obtain ⟨d, hs⟩ := Option.isSome_iff_exists.1 hs
  have : (convert src dst (.int k' n)).run P C.w = .ok (.int k (k.wrap n)) C.w := by
   simp only [convert, Sem.run_bind, run_underlying hs, run_underlying hd, Result.andThen_ok, Conv.intToInt, Sem.run_pure]
  rw [this]
  exact Done.same h (.i _ _) hk
 all_goals exact hk.elim
theorem nilc_sound (h : R C σ) {x : V} {c : Value} (hx : VR C x c) {K : V → Prop} (hk : nilcK x σ K) (ρ : Operand → Value) (y : Operand) (hy : ρ y = c) (o : Oper) (ho : o.op = .nilCheck y) :
  ∃ v, (execOp ρ o).run P C.w = .ok (.value c) C.w ∧ VR C v c ∧ K v := by
 cases x <;> simp only [nilcK] at hk
 case p id ver off =>
  obtain ⟨blk, bs, rfl, _⟩ := live_ptr (live_ver h hk.1) hx
  exact ⟨_, by simp [execOp, ho, hy], hx, hk.2⟩
 case sp cs off =>
  cases hx with
  | sp _ _ blk base cs' hz hl h1 hc hv => exact ⟨_, by simp [execOp, ho, hy], .sp _ _ blk base cs' hz hl h1 hc hv, hk⟩
 case f fn a b =>
  cases fn <;> simp only at hk
  case func f =>
   have hx' := hx
   cases hx with
   | f _ _ _ cf cc hl1 hl2 h1 h2 => exact ⟨_, by simp [execOp, ho, hy], hx', hk⟩
  all_goals exact hk.elim
 all_goals exact hk.elim
theorem fad_sound (h : R C σ) {x : V} {c : Value} (hx : VR C x c) {s : TypeId} {fs : Array Field} {fi : Nat} {f : Field} (hs : P.underlying s = some (.struct fs)) (hf : fs[fi]? = some f)
  {sz : Nat} (hsz : szP P f.type = some sz) (h0 : sz ≠ 0) {K : V → Prop} (hk : fadK f.offset x σ K) :
  Done C (fun v σ' => σ' = σ ∧ K v) ((Instr.fieldAt s c fi).run P C.w) := by
 have key : ∀ a : Addr, (Instr.fieldAt s (.pointer (some a)) fi).run P C.w = .ok (.pointer (some (a.add f.offset))) C.w := by
  intro a
  simp [Instr.fieldAt, run_underlying hs, hf, Instr.sureAddr, fieldPlace, run_sizeOf hsz, h0]
 cases x <;> simp only [fadK] at hk
 case p id ver off =>
  obtain ⟨blk, bs, rfl, hρ⟩ := live_ptr (live_ver h hk.1) hx
  rw [key, add_at, Nat.add_assoc]
  exact Done.same h (.p _ _ _ _ _ hρ (live_ver h hk.1)) ⟨rfl, hk.2⟩
 case sp cells off =>
  cases hx with
  | sp _ _ blk base cs hz hl h1 hc hv =>
   rw [key, add_at, Nat.add_assoc]
   exact Done.same h (.sp _ _ _ _ cs hz hl h1 hc hv) ⟨rfl, hk⟩
 all_goals exact hk.elim
theorem agg_inv {cs : List V} {c : Value} (h : VR C (.agg cs) c) : ∃ ds : Array Value, c = .agg ds ∧ CR C cs ds.toList := by
 cases h with
 | agg _ ds hl h1 hv => exact ⟨ds, rfl, by simpa using hl, fun e he => h1 e (by simpa using he), fun j x e hx he => hv j x e hx (by simpa using he)⟩
theorem part_one (h : R C σ) {t : TypeId} {cs : List V} {ds : Array Value} (hc : CR C cs ds.toList) {off : Nat} (hoff : off < cs.length) (ha : aggP P t = some false) {K : V → Prop} (hk : K (cs.getD off .u)) :
  Done C (fun v σ' => σ' = σ ∧ K v) ((part t ds off).run P C.w) := by
 have hlt : off < ds.size := by have := hc.1; simp at this; omega
 have : (part t ds off).run P C.w = .ok ds[off] C.w := by
  simp [part, run_isAgg_false ha, Array.getElem?_eq_getElem hlt]
 rw [this]
 exact Done.same h (hc.2.2 off _ _ (get_ok hoff .u) (by simp [Array.getElem?_eq_getElem hlt])) ⟨rfl, hk⟩
theorem part_agg (h : R C σ) {t : TypeId} {cs : List V} {ds : Array Value} (hc : CR C cs ds.toList) {off n : Nat} (hoff : off + n ≤ cs.length) (ha : aggP P t = some true) (hn : szP P t = some n)
  {K : V → Prop} (hk : K (.agg ((cs.drop off).take n))) : Done C (fun v σ' => σ' = σ ∧ K v) ((part t ds off).run P C.w) := by
 have hlen : ds.size = cs.length := by have := hc.1; simpa using this
 have : (part t ds off).run P C.w = .ok (.agg (ds.extract off (off + n))) C.w := by
  simp [part, run_isAgg_true ha, run_sizeOf hn]
 rw [this]
 refine Done.same h (.agg _ _ (by simp; omega) (fun c hc' => ?_) (fun j x c hx hc' => ?_)) ⟨rfl, hk⟩
 ·obtain ⟨j, hj⟩ := Array.mem_iff_getElem?.1 hc'
  rw [Array.getElem?_extract] at hj
  split at hj
  ·exact hc.2.1 c (by simpa using Array.mem_of_getElem? hj)
  ·cases hj
 ·rw [Array.getElem?_extract] at hc'
  split at hc'
  ·rw [List.getElem?_take] at hx
   split at hx
   ·rw [List.getElem?_drop] at hx
    exact hc.2.2 (off + j) x c hx (by simpa using hc')
   ·cases hx
  ·cases hc'
theorem fld1_sound (h : R C σ) {x : V} {c : Value} (hx : VR C x c) {s : TypeId} {fs : Array Field} {fi : Nat} {f : Field} (hs : P.underlying s = some (.struct fs)) (hf : fs[fi]? = some f)
  (ha : aggP P f.type = some false) {K : V → Prop} (hk : match x with | .agg cs => f.offset < cs.length ∧ K (cs.getD f.offset .u) | _ => False) :
  Done C (fun v σ' => σ' = σ ∧ K v) ((Instr.field s c fi).run P C.w) := by
 cases x <;> simp only at hk
 case agg cs =>
  obtain ⟨ds, rfl, hc⟩ := agg_inv hx
  have : (Instr.field s (.agg ds) fi).run P C.w = (part f.type ds f.offset).run P C.w := by
   simp [Instr.field, run_underlying hs, hf, asAgg]
  rw [this]
  exact part_one h hc hk.1 ha hk.2
 all_goals exact hk.elim
theorem fldA_sound (h : R C σ) {x : V} {c : Value} (hx : VR C x c) {s : TypeId} {fs : Array Field} {fi : Nat} {f : Field} (hs : P.underlying s = some (.struct fs)) (hf : fs[fi]? = some f)
  {n : Nat} (ha : aggP P f.type = some true) (hn : szP P f.type = some n) {K : V → Prop} (hk : match x with | .agg cs => f.offset + n ≤ cs.length ∧ K (.agg ((cs.drop f.offset).take n)) | _ => False) :
  Done C (fun v σ' => σ' = σ ∧ K v) ((Instr.field s c fi).run P C.w) := by
 cases x <;> simp only at hk
 case agg cs =>
  obtain ⟨ds, rfl, hc⟩ := agg_inv hx
  have : (Instr.field s (.agg ds) fi).run P C.w = (part f.type ds f.offset).run P C.w := by
   simp [Instr.field, run_underlying hs, hf, asAgg]
  rw [this]
  exact part_agg h hc hk.1 ha hn hk.2
 all_goals exact hk.elim
theorem ixa_sound (h : R C σ) {x i : V} {c ci : Value} (hx : VR C x c) (hi : VR C i ci) {t e : TypeId} {n es : Nat} (ht : P.underlying t = some (.array n e)) (hs : szP P e = some es)
  {K : V → Prop} (hk : ixaK n es x i σ K) : Done C (fun v σ' => σ' = σ ∧ K v) ((Instr.indexAt t c ci).run P C.w) := by
 have key : ∀ (a : Addr) (k : IntKind) (j : Int), 0 ≤ j → j < n → (Instr.indexAt t (.pointer (some a)) (.int k j)).run P C.w = .ok (.pointer (some (a.add (j.toNat * es)))) C.w := by
  intro a k j h0 h1
  simp [Instr.indexAt, asIntOf, run_underlying ht, Instr.sureAddr, h0, h1, run_sizeOf hs]
 cases x <;> cases i <;> simp only [ixaK] at hk
 case p.i id ver off k j =>
  obtain ⟨hl, h0, h1, hk⟩ := hk
  obtain ⟨blk, bs, rfl, hρ⟩ := live_ptr (live_ver h hl) hx
  obtain rfl := int_inv hi
  rw [key _ _ _ h0 h1, add_at, Nat.add_assoc]
  exact Done.same h (.p _ _ _ _ _ hρ (live_ver h hl)) ⟨rfl, hk⟩
 case sp.i cells off k j =>
  obtain ⟨h0, h1, hk⟩ := hk
  obtain rfl := int_inv hi
  cases hx with
  | sp _ _ blk base cs hz hl h1' hc hv =>
   rw [key _ _ _ h0 h1, add_at, Nat.add_assoc]
   exact Done.same h (.sp _ _ _ _ cs hz hl h1' hc hv) ⟨rfl, hk⟩
 all_goals exact hk.elim
theorem slice_live {id ver off len es : Nat} {c : Value} (hver : C.vs[id]? = some ver) (hv : VR C (.s id ver off len es) c) :
  ∃ blk bs at_ cap cc t, c = .slice (some ⟨blk, at_, none⟩) len cap ∧ C.ρ[id]? = some (blk, bs) ∧ len ≤ cap ∧ C.w.heap[blk]? = some (.cells cc t (0, 0)) ∧ bs + off + cap * es ≤ cc.size ∧ (cap ≠ 0 → at_ = bs + off) := by
 cases hv with
 | s _ _ _ _ _ blk bs at_ cap cc t hρ hv hlc hb hs ha => exact ⟨blk, bs, at_, cap, cc, t, rfl, hρ, hlc, hb, hs, ha⟩
 | s0 _ _ _ _ _ v _ h1 hv hl =>
  rw [hver] at hv
  have := Option.some.inj hv
  omega
theorem ixv_sound (h : R C σ) {x i : V} {c ci : Value} (hx : VR C x c) (hi : VR C i ci) {t e : TypeId} {n es : Nat} (ht : P.underlying t = some (.array n e)) (hs : szP P e = some es)
  {one : Option Nat} (ho : (one = none ∧ es = 1 ∧ aggP P e = some false) ∨ (one = some es ∧ aggP P e = some true))
  {K : V → Prop} (hk : ixvK n one x i K) : Done C (fun v σ' => σ' = σ ∧ K v) ((Instr.index t c ci).run P C.w) := by
 cases x <;> cases i <;> simp only [ixvK] at hk
 case agg.i cs k j =>
  obtain ⟨h0, h1, hk⟩ := hk
  obtain ⟨ds, rfl, hc⟩ := agg_inv hx
  obtain rfl := int_inv hi
  have : (Instr.index t (.agg ds) (.int k j)).run P C.w = (part e ds (j.toNat * es)).run P C.w := by
   simp [Instr.index, asIntOf, run_underlying ht, h0, h1, run_sizeOf hs]
  rw [this]
  have hj : j.toNat < n := by omega
  rcases ho with ⟨rfl, rfl, ha⟩ | ⟨rfl, ha⟩
  ·simp only at hk
   rw [Nat.mul_one]
   exact part_one h hc (by omega) ha hk.2
  ·simp only at hk
   have : j.toNat * es + es ≤ n * es := by
    have := Nat.mul_le_mul_right es (show j.toNat + 1 ≤ n by omega)
    rwa [Nat.add_mul, Nat.one_mul] at this
   exact part_agg h hc (by omega) ha hs hk.2
theorem ixs_sound (h : R C σ) {x i : V} {c ci : Value} (hx : VR C x c) (hi : VR C i ci) {t e : TypeId} {es : Nat} (ht : P.underlying t = some (.slice e)) (hs : szP P e = some es)
  {K : V → Prop} (hk : ixsK es x i σ K) : Done C (fun v σ' => σ' = σ ∧ K v) ((Instr.indexAt t c ci).run P C.w) := by
 have key : ∀ (a : Addr) (n cap : Nat) (k : IntKind) (j : Int), 0 ≤ j → j < n → (Instr.indexAt t (.slice (some a) n cap) (.int k j)).run P C.w = .ok (.pointer (some (a.add (j.toNat * es)))) C.w := by
  intro a n cap k j h0 h1
  simp [Instr.indexAt, asIntOf, run_underlying ht, h0, h1, run_sizeOf hs]
 cases x <;> cases i <;> simp only [ixsK] at hk
 case s.i id ver off len es' k j =>
  obtain ⟨rfl, hl, h0, h1, hk⟩ := hk
  obtain ⟨blk, bs, at_, cap, cc, t', rfl, hρ, hlc, hb, hsz, ha⟩ := slice_live (live_ver h hl) hx
  obtain rfl := int_inv hi
  rw [key _ _ _ _ _ h0 h1, add_at, ha (by omega), Nat.add_assoc]
  exact Done.same h (.p _ _ _ _ _ hρ (live_ver h hl)) ⟨rfl, hk⟩
 case ss.i cells len full k j =>
  obtain ⟨h0, h1, hk⟩ := hk
  obtain rfl := int_inv hi
  cases hx with
  | ss _ _ _ blk base cap cs hz hl h1' hc hv hlc hf =>
   rw [key _ _ _ _ _ h0 h1, add_at]
   exact Done.same h (.sp _ _ _ _ cs hz hl h1' hc hv) ⟨rfl, hk⟩
  | ss0 => omega
  | ssn => omega
 all_goals exact hk.elim
theorem ext_sound (h : R C σ) {x : V} {c : Value} (hx : VR C x c) {i : Nat} {K : V → Prop} (hk : extK i x K) : Done C (fun v σ' => σ' = σ ∧ K v) ((Instr.extract c i).run P C.w) := by
 cases x <;> simp only [extK] at hk
 case tup vs =>
  cases hx with
  | tup _ cs hl hv =>
   have hlt : i < cs.size := by omega
   have : (Instr.extract (.tuple cs) i).run P C.w = .ok cs[i] C.w := by simp [Instr.extract, Array.getElem?_eq_getElem hlt]
   rw [this]
   exact Done.same h (hv i _ _ (get_ok hk.1 .u) (Array.getElem?_eq_getElem hlt)) ⟨rfl, hk.2⟩
 all_goals exact hk.elim
end
end Go.Ab
end
end
