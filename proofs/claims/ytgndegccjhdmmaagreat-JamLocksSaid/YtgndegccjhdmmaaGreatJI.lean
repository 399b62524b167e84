/- newHeap: plain, and the walk. -/
import Derived.Test.YtgndegccjhdmmaaGreatJF
set_option linter.unusedVariables false
set_option linter.unusedSimpArgs false
set_option maxHeartbeats 4000000
set_option maxRecDepth 100000
namespace Go.Ab
open Go Go.Proofs

/-- The logs that stay, by their waves, up to one. -/
def leftTo (w : Nat → Int) : Nat → Nat
  | 0 => 0
  | n + 1 => if w n < 0 then leftTo w n ||| 2 ^ n else leftTo w n
theorem leftTo_bit {w : Nat → Int} : ∀ {n j : Nat}, (leftTo w n).testBit j = (decide (j < n) && decide (w j < 0))
  | 0, j => by simp [leftTo]
  | n + 1, j => by
    have ih := leftTo_bit (w := w) (n := n) (j := j)
    unfold leftTo
    by_cases hj : j = n
    · subst hj
      split
      · rename_i h
        rw [Nat.testBit_or, Nat.testBit_two_pow, ih]
        simp [h]
      · rename_i h
        rw [ih]
        simp [h]
    · have h1 : decide (j < n + 1) = decide (j < n) := by
        by_cases h : j < n
        · simp [h]; omega
        · simp [h]; omega
      split
      · rw [Nat.testBit_or, Nat.testBit_two_pow, ih, h1]
        have h2 : decide (n = j) = false := decide_eq_false (fun e => hj e.symm)
        rw [h2, Bool.or_false]
      · rw [ih, h1]
theorem leftTo_lt {w : Nat → Int} : ∀ {n : Nat}, n ≤ 16 → leftTo w n < 65536
  | 0, _ => by simp [leftTo]
  | n + 1, hn => by
    have ih := leftTo_lt (w := w) (n := n) (by omega)
    unfold leftTo
    split
    · have hp : 2 ^ n < 2 ^ 16 := Nat.pow_lt_pow_right (by omega) (by omega)
      exact Nat.or_lt_two_pow (n := 16) ih hp
    · exact ih
def byB (J : List Lg) : List Nat := J.map fun l => setB l.2.1
/-- What stays by keys. -/
def left (J : List Lg) (s : Nat) : Nat := leftTo (wr J (byB J) s J.length) J.length
theorem left_lt {J : List Lg} {s : Nat} (hN : J.length ≤ 12) : left J s < 65536 := leftTo_lt (by omega)

def entS (F : Nat → Nat) (s : Nat) : Ent := (s, [(s : Int)], .i .u16 (F s))
def entsTo (F : Nat → Nat) (i : Nat) : List Ent := (List.range i).map (entS F)
theorem entsTo_succ {F : Nat → Nat} {i : Nat} : entsTo F (i + 1) = entsTo F i ++ [(i, [(i : Int)], .i .u16 (F i))] := by simp [entsTo, entS, List.range_succ]
theorem entsTo_mem {F : Nat → Nat} {i : Nat} {e : Ent} : e ∈ entsTo F i ↔ ∃ s, s < i ∧ e = entS F s := by
  simp only [entsTo, List.mem_map, List.mem_range]
  constructor <;> (rintro ⟨s, h1, h2⟩; exact ⟨s, h1, h2.symm⟩)
theorem entsTo_ok {F : Nat → Nat} {i : Nat} : MapOK 1 (entsTo F i) i := by
  refine ⟨by omega, fun e he => ?_, ?_, ?_, fun e he => ?_⟩
  · obtain ⟨s, -, rfl⟩ := entsTo_mem.1 he; rfl
  · unfold entsTo
    rw [List.map_map]
    refine List.Pairwise.map _ (fun a b hab h => hab ?_) (List.nodup_range (n := i))
    simp [entS] at h
    omega
  · unfold entsTo
    rw [List.map_map]
    refine List.Pairwise.map _ (fun a b hab h => hab ?_) (List.nodup_range (n := i))
    simpa [entS] using h
  · obtain ⟨s, hs, rfl⟩ := entsTo_mem.1 he; exact hs
theorem entsTo_none {F : Nat → Nat} {i : Nat} : lk (entsTo F i) [(i : Int)] = none := by
  rw [lk_none]
  intro h
  obtain ⟨e, he, h2⟩ := List.mem_map.1 h
  obtain ⟨s, hs, rfl⟩ := entsTo_mem.1 he
  simp [entS] at h2
  omega
def goodE (F : Nat → Nat) (e : Ent) : Bool := decide (F e.1 ≠ 0)
def leftE (F : Nat → Nat) (seen : List Nat) (e : Ent) : Bool := !(decide (e.1 ∈ seen) && !goodE F e)
def stuckE (F : Nat → Nat) (W : Nat) : List Ent := (entsTo F W).filter (goodE F)
theorem stuckE_len {F : Nat → Nat} {W : Nat} : ∀ e ∈ stuckE F W, e.2.1.length = 1 := fun e he => entsTo_ok.len e (List.mem_filter.1 he).1
/-- What stays, by the map. -/
theorem stuck_is {F : Nat → Nat} {W s : Nat} (hs : s < W) : (match lk (stuckE F W) [(s : Int)] with | some v => v | none => .i .u16 0) = .i .u16 (F s) := by
  have hmem : entS F s ∈ entsTo F W := entsTo_mem.2 ⟨s, hs, rfl⟩
  by_cases h : F s = 0
  · have : lk (stuckE F W) [(s : Int)] = none := by
      rw [lk_none]
      intro hm
      obtain ⟨e, he, h2⟩ := List.mem_map.1 hm
      obtain ⟨h3, h4⟩ := List.mem_filter.1 he
      obtain ⟨s', hs', rfl⟩ := entsTo_mem.1 h3
      simp [entS] at h2
      have : s' = s := by omega
      subst this
      simp [goodE, entS, h] at h4
    rw [this, h]; rfl
  · have hin : entS F s ∈ stuckE F W := List.mem_filter.2 ⟨hmem, by simp [goodE, entS, h]⟩
    have hok : MapOK 1 (stuckE F W) W := entsTo_ok.filter
    obtain ⟨j, hj⟩ := List.mem_iff_getElem?.1 hin
    have := lk_at hok hj
    simp only [entS] at this
    rw [this]

def stV (F : Nat → Nat) (W : Nat) : V := .sm ((mpV (stuckE F W)).map (·.2))
theorem pure_mpV {E : List Ent} (h : ∀ e ∈ E, e.2.2.pure = true) : (V.sm ((mpV E).map (·.2))).pure = true := by
  show pureM _ = true
  rw [pureM_all]
  intro e he
  obtain ⟨x, hx, rfl⟩ := List.mem_map.1 he
  unfold mpV at hx
  obtain ⟨y, hy, rfl⟩ := List.mem_map.1 hx
  refine ⟨?_, h y hy⟩
  show pureL (y.2.1.map (V.i .u16)) = true
  rw [pureL_all]
  intro x hx
  obtain ⟨z, -, rfl⟩ := List.mem_map.1 hx
  rfl
@[simp] theorem pure_stV {F : Nat → Nat} {W : Nat} : (stV F W).pure = true := pure_mpV fun e he => by
  obtain ⟨s, -, rfl⟩ := entsTo_mem.1 (List.mem_filter.1 he).1
  rfl
theorem frz_mp {k n id c : Nat} {σ : List O} {E : List Ent} (h : σ[id]? = some (.map (mpV E) c)) (hn : n ≤ id) (hp : ∀ e ∈ E, e.2.2.pure = true) : frz (k + 2) n σ (.m id) = .sm ((mpV E).map (·.2)) := by
  rw [frz]
  simp only [V.pure, Bool.false_eq_true, if_false, Nat.not_lt.2 hn, h]
  congr 1
  refine List.map_congr_left (fun e he => ?_)
  unfold mpV at he
  obtain ⟨x, hx, rfl⟩ := List.mem_map.1 he
  show (frz (k + 1) n σ (kV x.2.1), frz (k + 1) n σ x.2.2) = (kV x.2.1, x.2.2)
  rw [frz_pure (hp x hx), frz_pure (by
    show pureL (x.2.1.map (V.i .u16)) = true
    rw [pureL_all]
    intro y hy
    obtain ⟨z, -, rfl⟩ := List.mem_map.1 hy
    rfl)]
theorem frz_hp {J : List Lg} {f : Bool} {b st : V} {k id : Nat} {σ : List O} (h : σ[id]? = some (.row 0 (hpC J f b st))) : frz (k + 2) 0 σ (.p id 0 0) = .sp (hpC J f (frz (k + 1) 0 σ b) (frz (k + 1) 0 σ st)) 0 := by
  rw [frz]
  simp only [V.pure, Bool.false_eq_true, if_false, Nat.not_lt_zero, h, if_true]
  show V.sp [frz (k + 1) 0 σ (slJ J f), _, _] 0 = _
  rw [frz_pure (by simp)]

/-- The heap of a heap that is being made. -/
structure HpH (J : List Lg) (f : Bool) (n : Nat) (b : V) (E : List Ent) (c : Nat) (σ : List O) : Prop where
  j : σ[0]? = some (.row 0 [slJ J f])
  m : σ[1]? = some (.map (mpV E) c)
  l : σ[2]? = some (.row 0 (hpC J f b (.m 1)))
  x : σ[3]? = some (.row 0 [.p 2 0 0])
  g : Gr 4 1 σ b n (us ((byB J).take n))
theorem HpH.app {J f n b E c σ g} (h : HpH J f n b E c σ) : HpH J f n b E c (σ ++ g) := ⟨app_get h.j, app_get h.m, app_get h.l, app_get h.x, h.g.app⟩
theorem frz_G' {k es n : Nat} {σ : List O} {v : V} {cs : List V} {kk : Nat} (h : Gr k es σ v n cs) (hp : pureL cs = true) : frz (kk + 2) 0 σ v = .ss cs n (n == 0) := by
  rcases h.cases with ⟨rfl, rfl, rfl⟩ | ⟨id, ver, hn, hid, rfl, hs, hlt⟩
  · exact frz_pure (by simp)
  · have hl := h.1
    rw [frz_row hs (Nat.zero_le _) hl hp]
    have : (n == 0) = false := by simp [hn]
    rw [this]
theorem waves63m {J : List Lg} {f : Bool} {b : V} {E : List Ent} {c keys : Nat} {σ : List O} (hH : HpH J f J.length b E c σ) (hE : ∀ e ∈ E, e.2.2.pure = true) (hB : SmallB J (byB J)) (hN : J.length ≤ 12) (hk : keys < 65536) :
    FSpec Tryz.prog 63 [.p 2 0 0, .i .u16 keys] σ (.agg (ints (rowF 12 (wr J (byB J) keys J.length)))) σ := by
  refine FSpec.frozen 4 ?_ ?_
  · simp only [List.map_cons, List.map_nil]
    have hlen : (byB J).length = J.length := hB.1
    have hg := hH.g
    rw [List.take_of_length_le (by omega)] at hg
    have h1 := frz_G' (kk := 1) hg (by simp)
    have h2 := frz_mp (k := 1) (n := 0) hH.m (Nat.zero_le _) hE
    rw [frz_hp (k := 2) hH.l, h1, h2, frz_pure rfl]
    have h3 := waves63 (J := J) (B := byB J) (fJ := f) (fb := J.length == 0) (st := .sm ((mpV E).map (·.2))) (keys := keys) (σ := []) hB hN hk (pure_mpV hE)
    simp only [hpV, hlen] at h3
    exact h3
  · rfl
end Go.Ab
