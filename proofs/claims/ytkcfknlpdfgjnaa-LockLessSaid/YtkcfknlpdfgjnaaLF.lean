/- Through, Time, of the program and of the reference. -/
import Derived.Test.YtkcfknlpdfgjnaaLE
set_option linter.unusedVariables false
set_option linter.unusedSimpArgs false
set_option maxHeartbeats 4000000
namespace Go.Ab
open Go Go.Proofs

theorem ints_ok {a b : List Int} {fa fb : Bool} (ha : (a.length : Int) < 1000000000) : FSpec Try.prog 31 [sl a fa, sl b fb] [] (.b (decide (a = b))) [] := by
  refine fn31.spec0 mixed noIt_ok ?_
  rw [ic31]
  refine ab_seq_k fun K1 h1 => ?_
  simp
  refine h1 _ _ _ ?_
  clear h1 K1
  refine ab_seq_k fun K2 h2 => ?_
  refine ab_seq_k fun K3 h3 => ?_
  simp
  refine h3 _ _ _ ?_
  clear h3 K3
  refine ab_cond_of rfl (fun hc => ?_) (fun hc => ?_)
  · have hne : a ≠ b := by rintro rfl; simp at hc
    refine ab_seq_k fun K4 h4 => ?_
    simp
    refine h4 _ _ _ ?_
    clear h4 K4
    simp
    exact fin_of 1 (by simp [rs31, hne])
  have hlen : a.length = b.length := by simp at hc; omega
  simp
  refine h2 _ _ _ ?_
  clear h2 K2
  refine ab_seq_k fun K5 h5 => ?_
  refine ab_seq_k fun K6 h6 => ?_
  simp
  refine h6 _ _ _ ?_
  clear h6 K6
  refine ab_block_k fun K7 h7 => ?_
  refine ab_loop_k (fun m env σ => ∃ i : Nat, i + m = a.length ∧ a.take i = b.take i ∧ env = [(0, sl a fa), (1, sl b fb), (5, .i .i64 i)]) a.length ⟨0, by omega, by simp, by simp⟩ ?_
  rintro m env σ ⟨i, hi, hpre, rfl⟩ K8 h8
  rw [ic31_0]
  refine ab_seq_k fun K9 h9 => ?_
  refine ab_seq_k fun K10 h10 => ?_
  simp
  refine h10 _ _ _ ?_
  clear h10 K10
  refine ab_cond_of rfl (fun hc2 => ?_) (fun hc2 => ?_)
  · have hil : i < a.length := by simpa using hc2
    have hilb : i < b.length := by omega
    have hx : a[i]? = some a[i] := List.getElem?_eq_getElem hil
    have hy : b[i]? = some b[i] := List.getElem?_eq_getElem hilb
    have hta : a.take (i + 1) = a.take i ++ [a[i]] := by rw [List.take_add_one, hx]; rfl
    have htb : b.take (i + 1) = b.take i ++ [b[i]] := by rw [List.take_add_one, hy]; rfl
    simp
    refine h9 _ _ _ ?_
    clear h9 K9
    refine ab_seq_k fun K11 h11 => ?_
    refine ab_block_k fun K12 h12 => ?_
    refine ab_seq_k fun K13 h13 => ?_
    simp [hil, hilb]
    refine h13 _ _ _ ?_
    clear h13 K13
    refine ab_cond_of rfl (fun hc3 => ?_) (fun hc3 => ?_)
    · have hne : a ≠ b := by rintro rfl; simp at hc3
      refine ab_seq_k fun K14 h14 => ?_
      simp
      refine h14 _ _ _ ?_
      clear h14 K14
      simp
      exact fin_of 1 (by simp [rs31, hne])
    · have he : a[i] = b[i] := by simpa using hc3
      simp
      refine h12 _ _ _ ?_
      refine h11 _ _ _ ?_
      simp [wrap64 (x := (i : Int) + 1) (by omega) (by omega)]
      exact h8 _ _ _ (again (m - 1) (by omega) ⟨i + 1, by omega, by rw [hta, htb, hpre, he], by simp⟩)
  · have hil : i = a.length := by simp at hc2; omega
    subst hil
    have he : a = b := by
      rw [List.take_length] at hpre
      rw [hpre, List.take_of_length_le (by omega)]
    simp
    refine h7 _ _ _ ?_
    refine h5 _ _ _ ?_
    refine ab_seq_k fun K15 h15 => ?_
    simp
    refine h15 _ _ _ ?_
    clear h15 K15
    simp
    exact fin_of 1 (by simp [rs31, he])

def pairV (p : Int × Int) : V := .tup [.i .i64 p.1, .i .i64 p.2]
def timeP (T : Tw) (room : Int) (o : List Int) : Int × Int := if ordE T room o = 0 then ((runR T room o).last, 0) else (0, ordE T room o)
theorem ord_spec {T : Tw} {room : Int} {o : List Int} (h : ordE T room o = 0) : checkTow T room = 0 ∧ isOrd T.length o = true := by
  unfold ordE at h
  split at h
  · rename_i h1; exact absurd h h1
  · rename_i h1
    split at h
    · rename_i h2; exact ⟨Classical.not_not.1 h1, h2⟩
    · cases h
structure OrdOK (T : Tw) (room : Int) (o : List Int) : Prop where
  ct : checkTow T room = 0
  n1 : 1 ≤ T.length
  n7 : T.length ≤ 7
  tb : TB T
  r0 : 0 ≤ room
  r7 : room ≤ 7
  ol : o.length = T.length
  ox : ∀ x ∈ o, 0 ≤ x ∧ x < (T.length : Int)
  nd : o.Nodup
theorem ord_ok {T : Tw} {room : Int} {o : List Int} (h : ordE T room o = 0) : OrdOK T room o := by
  obtain ⟨h1, h2⟩ := ord_spec h
  obtain ⟨a1, a2, a3, a4, a5⟩ := tow_len h1
  obtain ⟨b1, b2, b3⟩ := isOrd_spec h2
  exact ⟨h1, a1, a2, a3, a4, a5, b1, b2, b3⟩

theorem time_ok {T : Tw} {ft fo : Bool} {room : Int} {o : List Int} (hl : (T.length : Int) < 1000000000) (hol : (o.length : Int) < 9223372036854775808) :
    FSpec Try.prog 19 [towV T ft room, sl o fo] [] (pairV (timeP T room o)) [] := by
  refine fn19.spec0 mixed noIt_ok ?_
  rw [ic19]
  refine ab_seq_k fun K1 h1 => ?_
  simp
  refine h1 _ _ _ ?_
  clear h1 K1
  refine ab_seq_k fun K2 h2 => ?_
  simp [take_towC]
  refine callK_of (ordered_ok (ft := ft) (fo := fo) hl hol) ?_
  by_cases hE : ordE T room o = 0
  · have Q := ord_ok hE
    have hrun := run_ok (T := T) (ft := ft) (room := room) (S := zer7) (H := zer7) (o := o) (ov := sl o fo) (σ := hpOrd T ft room) (id := 3) (ver := 0) Q.tb Q.r0 Q.r7 rfl rfl rfl SlI.ss (by intro a b c d h; cases h) (by have := Q.ol; have := Q.n7; omega) Q.ox
    simp [ordV, ordH, hE]
    refine h2 _ _ _ ?_
    clear h2 K2
    refine ab_seq_k fun K3 h3 => ?_
    refine ab_seq_k fun K4 h4 => ?_
    simp
    refine h4 _ _ _ ?_
    clear h4 K4
    refine ab_cond_of rfl (fun h => by cases h) (fun _ => ?_)
    simp
    refine h3 _ _ _ ?_
    clear h3 K3
    refine ab_seq_k fun K5 h5 => ?_
    simp
    refine callK_of (hrun) ?_
    simp
    refine h5 _ _ _ ?_
    clear h5 K5
    simp
    exact fin_of 1 (by simp [rs19, timeP, hE, pairV])
  · simp [ordV, ordH, hE]
    refine h2 _ _ _ ?_
    clear h2 K2
    refine ab_seq_k fun K3 h3 => ?_
    refine ab_seq_k fun K4 h4 => ?_
    simp
    refine h4 _ _ _ ?_
    clear h4 K4
    refine ab_cond_of rfl (fun _ => ?_) (fun h => by simp [hE] at h)
    refine ab_seq_k fun K5 h5 => ?_
    simp
    refine h5 _ _ _ ?_
    clear h5 K5
    simp
    exact fin_of 1 (by simp [rs19, timeP, hE, pairV])

theorem refTime {T : Tw} {ft fo : Bool} {room : Int} {o : List Int} (hl : (T.length : Int) < 1000000) (hol : (o.length : Int) < 9223372036854775808) :
    FSpec Try.prog 20 [towV T ft room, sl o fo] [] (pairV (timeP T room o)) [] := by
  refine fn20.spec0 mixed noIt_ok ?_
  rw [ic20]
  have hct := fun σ => FSpec.frame (σ := σ) (refTow (T := T) (ft := ft) (room := room) (by omega)) (by simp) rfl
  have hio := fun σ => FSpec.frame (σ := σ) (isOrder_ok (n := T.length) (o := o) (fo := fo) hl hol) (by simp) rfl
  refine ab_seq_k fun K1 h1 => ?_
  simp
  refine h1 _ _ _ ?_
  clear h1 K1
  refine ab_seq_k fun K2 h2 => ?_
  refine ab_seq_k fun K3 h3 => ?_
  simp [take_towC]
  refine callK_of (hct _) ?_
  simp [take_towC]
  refine h3 _ _ _ ?_
  clear h3 K3
  refine ab_cond_of rfl (fun hc => ?_) (fun hc => ?_)
  · have hne : ¬ checkTow T room = 0 := by simpa using hc
    have hE : ordE T room o = checkTow T room := by simp [ordE, hne]
    refine ab_seq_k fun K4 h4 => ?_
    simp [take_towC]
    refine callK_of (hct _) ?_
    simp [take_towC]
    refine h4 _ _ _ ?_
    clear h4 K4
    simp
    exact fin_of 1 (by simp [rs20, timeP, hE, hne, pairV])
  have hct0 : checkTow T room = 0 := by simpa using hc
  simp
  refine h2 _ _ _ ?_
  clear h2 K2
  refine ab_seq_k fun K5 h5 => ?_
  refine ab_seq_k fun K6 h6 => ?_
  simp [get0_towC]
  refine callK_of (hio _) ?_
  simp [get0_towC]
  refine h6 _ _ _ ?_
  clear h6 K6
  refine ab_cond_of rfl (fun hc2 => ?_) (fun hc2 => ?_)
  · have hno : isOrd T.length o = false := by simpa using hc2
    have hE : ordE T room o = 16 := by simp [ordE, hct0, hno]
    refine ab_seq_k fun K7 h7 => ?_
    simp
    refine h7 _ _ _ ?_
    clear h7 K7
    simp
    exact fin_of 1 (by simp [rs20, timeP, hE, pairV])
  · have hyes : isOrd T.length o = true := by simpa using hc2
    have hE : ordE T room o = 0 := by simp [ordE, hct0, hyes]
    have Q := ord_ok hE
    have htm := fun σ => FSpec.frame (σ := σ) (timeOf_ok (ft := ft) (fo := fo) Q.tb Q.r0 Q.r7 (by have := Q.ol; have := Q.n7; omega) Q.ox) (by simp) rfl
    simp
    refine h5 _ _ _ ?_
    clear h5 K5
    refine ab_seq_k fun K8 h8 => ?_
    simp [take_towC]
    refine callK_of (htm _) ?_
    simp [take_towC]
    refine h8 _ _ _ ?_
    clear h8 K8
    simp
    exact fin_of 1 (by simp [rs20, timeP, hE, pairV])

/-! ### When each raft is through -/
def putAll (n : Nat) (o th : List Int) (i : Nat) : List Int := (List.range i).foldl (fun a j => a.set (o.getD j 0).toNat (th.getD j 0)) (List.replicate n 0)
theorem putAll_succ {n : Nat} {o th : List Int} {i : Nat} : putAll n o th (i + 1) = (putAll n o th i).set (o.getD i 0).toNat (th.getD i 0) := by
  unfold putAll
  rw [List.range_succ, List.foldl_append]; rfl
@[simp] theorem putAll_len {n : Nat} {o th : List Int} : ∀ {i : Nat}, (putAll n o th i).length = n
  | 0 => by simp [putAll]
  | i + 1 => by rw [putAll_succ, List.length_set, putAll_len]
def thrL (T : Tw) (room : Int) (o : List Int) : List Int := if ordE T room o = 0 then putAll o.length o (runR T room o).thrs o.length else []
def thrV (T : Tw) (room : Int) (o : List Int) : V := .tup [sl (thrL T room o) (thrL T room o).isEmpty, .i .i64 (ordE T room o)]

theorem through_ok {T : Tw} {ft fo : Bool} {room : Int} {o : List Int} (hl : (T.length : Int) < 1000000000) (hol : (o.length : Int) < 9223372036854775808) :
    FSpec Try.prog 17 [towV T ft room, sl o fo] [] (thrV T room o) [] := by
  refine fn17.spec0 mixed noIt_ok ?_
  rw [ic17]
  refine ab_seq_k fun K1 h1 => ?_
  simp
  refine h1 _ _ _ ?_
  clear h1 K1
  refine ab_seq_k fun K2 h2 => ?_
  simp [take_towC]
  refine callK_of (ordered_ok (ft := ft) (fo := fo) hl hol) ?_
  by_cases hE : ordE T room o = 0
  · have Q := ord_ok hE
    have ol := Q.ol
    have n1 := Q.n1
    have n7 := Q.n7
    have hrun := run_ok (T := T) (ft := ft) (room := room) (S := zer7) (H := zer7) (o := o) (ov := sl o fo) (σ := hpOrd T ft room) (id := 3) (ver := 0) Q.tb Q.r0 Q.r7 rfl rfl rfl SlI.ss (by intro a b c d h; cases h) (by omega) Q.ox
    obtain ⟨hl1, hl2⟩ := runR_len (T := T) (room := room) (o := o)
    have hthr : thrL T room o = putAll o.length o (runR T room o).thrs o.length := by simp [thrL, hE]
    have hne : (thrL T room o).isEmpty = false := by
      have : (thrL T room o).length = o.length := by rw [hthr]; simp
      cases h : thrL T room o with
      | nil => rw [h] at this; simp at this; omega
      | cons => rfl
    simp [ordV, ordH, hE]
    refine h2 _ _ _ ?_
    clear h2 K2
    refine ab_seq_k fun K3 h3 => ?_
    refine ab_seq_k fun K4 h4 => ?_
    simp
    refine h4 _ _ _ ?_
    clear h4 K4
    refine ab_cond_of rfl (fun h => by cases h) (fun _ => ?_)
    simp
    refine h3 _ _ _ ?_
    clear h3 K3
    refine ab_seq_k fun K5 h5 => ?_
    simp
    refine callK_of (hrun) ?_
    simp
    refine h5 _ _ _ ?_
    clear h5 K5
    have hset : (hpOrd T ft room).set 3 (O.row 0 (canR T ft room (runR T room o))) = [.row 0 (towC T ft room), .row 0 (towC T ft room), .row 0 (towC T ft room), .row 0 (canR T ft room (runR T room o))] := rfl
    rw [hset]
    refine ab_seq_k fun K6 h6 => ?_
    simp
    refine ⟨by omega, by omega, ?_⟩
    refine h6 _ _ _ ?_
    clear h6 K6
    rw [rep_ints]
    refine ab_seq_k fun K7 h7 => ?_
    refine ab_seq_k fun K8 h8 => ?_
    simp
    refine h8 _ _ _ ?_
    clear h8 K8
    refine ab_block_k fun K9 h9 => ?_
    have hH7 : (pad7 (runR T room o).secs).length = 7 := pad7_len (by omega)
    have hT7 : (pad7 (runR T room o).thrs).length = 7 := pad7_len (by omega)
    refine ab_loop_k (fun m env σ => ∃ i : Nat, i + m = o.length ∧ env = [(6, .p 3 0 0), (8, .s 4 0 0 o.length 1), (26, sl o fo), (27, .i .i64 o.length), (28, .i .i64 i)] ∧
        σ = [.row 0 (towC T ft room), .row 0 (towC T ft room), .row 0 (towC T ft room), .row 0 (canR T ft room (runR T room o)), .row 0 (ints (putAll o.length o (runR T room o).thrs i))]) o.length ⟨0, by omega, by simp, by simp [putAll]⟩ ?_
    rintro m env σ ⟨i, hi, rfl, rfl⟩ K10 h10
    rw [ic17_0]
    refine ab_seq_k fun K11 h11 => ?_
    simp
    refine h11 _ _ _ ?_
    clear h11 K11
    refine ab_seq_k fun K12 h12 => ?_
    refine ab_cond_of rfl (fun hc => ?_) (fun hc => ?_)
    · have hil : i < o.length := by simpa using hc
      obtain ⟨x, hx⟩ : ∃ x, o[i]? = some x := ⟨_, List.getElem?_eq_getElem hil⟩
      obtain ⟨hxx, hx'⟩ := List.getElem?_eq_some_iff.1 hx
      obtain ⟨hx0, hxT⟩ := Q.ox x (List.mem_of_getElem? hx)
      have hxo : o.getD i 0 = x := by rw [List.getD_eq_getElem?_getD, hx]; rfl
      have hq : (canR T ft room (runR T room o))[9 + i]? = some (.i .i64 ((runR T room o).thrs.getD i 0)) := canC_get9 hH7 (pad7_get (by omega))
      obtain ⟨hq1, hq2⟩ := List.getElem?_eq_some_iff.1 hq
      have hxl : x < o.length := by omega
      have hxn : x.toNat < o.length := by omega
      have hi7 : (i : Int) < 7 := by omega
      simp
      refine h12 _ _ _ ?_
      clear h12 K12
      refine ab_seq_k fun K13 h13 => ?_
      refine ab_block_k fun K14 h14 => ?_
      refine ab_seq_k fun K15 h15 => ?_
      simp [hil, hx, hx']
      refine h15 _ _ _ ?_
      clear h15 K15
      simp [hi7, hq, hq2, hx0, hxl, hxn]
      rw [ints_set, ← List.getD_eq_getElem?_getD]
      have hps := putAll_succ (n := o.length) (o := o) (th := (runR T room o).thrs) (i := i)
      rw [hxo] at hps
      rw [← hps]
      refine h14 _ _ _ ?_
      refine h13 _ _ _ ?_
      simp [wrap64 (x := (i : Int) + 1) (by omega) (by omega)]
      exact h10 _ _ _ (again (m - 1) (by omega) ⟨i + 1, by omega, by simp, rfl⟩)
    · have hil : i = o.length := by simp at hc; omega
      subst hil
      rw [← hthr]
      simp
      refine h9 _ _ _ ?_
      refine h7 _ _ _ ?_
      refine ab_seq_k fun K16 h16 => ?_
      simp
      refine h16 _ _ _ ?_
      clear h16 K16
      simp
      have hlen : (thrL T room o).length = o.length := by rw [hthr]; simp
      refine fin_of 3 ?_
      refine ⟨?_, .inr trivial⟩
      rw [show thrV T room o = .tup [.ss (ints (thrL T room o)) (thrL T room o).length false, .i .i64 0] by simp [thrV, hE, hne]]
      refine frz_two ?_
      rw [← hlen]
      exact frz_ints (k := 0) (l := thrL T room o) (by rfl) (Nat.zero_le _)
  · have hthr : thrL T room o = [] := by simp [thrL, hE]
    simp [ordV, ordH, hE]
    refine h2 _ _ _ ?_
    clear h2 K2
    refine ab_seq_k fun K3 h3 => ?_
    refine ab_seq_k fun K4 h4 => ?_
    simp
    refine h4 _ _ _ ?_
    clear h4 K4
    refine ab_cond_of rfl (fun _ => ?_) (fun h => by simp [hE] at h)
    refine ab_seq_k fun K5 h5 => ?_
    simp
    refine h5 _ _ _ ?_
    clear h5 K5
    simp
    exact fin_of 2 (by simp [rs17, thrV, hthr, ints])

theorem refThrough {T : Tw} {ft fo : Bool} {room : Int} {o : List Int} (hl : (T.length : Int) < 1000000) (hol : (o.length : Int) < 9223372036854775808) :
    FSpec Try.prog 18 [towV T ft room, sl o fo] [] (thrV T room o) [] := by
  refine fn18.spec0 mixed noIt_ok ?_
  rw [ic18]
  have hct := fun σ => FSpec.frame (σ := σ) (refTow (T := T) (ft := ft) (room := room) (by omega)) (by simp) rfl
  have hio := fun σ => FSpec.frame (σ := σ) (isOrder_ok (n := T.length) (o := o) (fo := fo) hl hol) (by simp) rfl
  refine ab_seq_k fun K1 h1 => ?_
  simp
  refine h1 _ _ _ ?_
  clear h1 K1
  refine ab_seq_k fun K2 h2 => ?_
  refine ab_seq_k fun K3 h3 => ?_
  simp [take_towC]
  refine callK_of (hct _) ?_
  simp [take_towC]
  refine h3 _ _ _ ?_
  clear h3 K3
  refine ab_cond_of rfl (fun hc => ?_) (fun hc => ?_)
  · have hne : ¬ checkTow T room = 0 := by simpa using hc
    have hE : ordE T room o = checkTow T room := by simp [ordE, hne]
    have hthr : thrL T room o = [] := by simp [thrL, hE, hne]
    refine ab_seq_k fun K4 h4 => ?_
    simp [take_towC]
    refine callK_of (hct _) ?_
    simp [take_towC]
    refine h4 _ _ _ ?_
    clear h4 K4
    simp
    exact fin_of 2 (by simp [rs18, thrV, hthr, hE, ints])
  have hct0 : checkTow T room = 0 := by simpa using hc
  simp
  refine h2 _ _ _ ?_
  clear h2 K2
  refine ab_seq_k fun K5 h5 => ?_
  refine ab_seq_k fun K6 h6 => ?_
  simp [get0_towC]
  refine callK_of (hio _) ?_
  simp [get0_towC]
  refine h6 _ _ _ ?_
  clear h6 K6
  refine ab_cond_of rfl (fun hc2 => ?_) (fun hc2 => ?_)
  · have hno : isOrd T.length o = false := by simpa using hc2
    have hE : ordE T room o = 16 := by simp [ordE, hct0, hno]
    have hthr : thrL T room o = [] := by simp [thrL, hE]
    refine ab_seq_k fun K7 h7 => ?_
    simp
    refine h7 _ _ _ ?_
    clear h7 K7
    simp
    exact fin_of 2 (by simp [rs18, thrV, hthr, hE, ints])
  · have hyes : isOrd T.length o = true := by simpa using hc2
    have hE : ordE T room o = 0 := by simp [ordE, hct0, hyes]
    have Q := ord_ok hE
    have ol := Q.ol
    have n1 := Q.n1
    have n7 := Q.n7
    have hth := fun σ => FSpec.frame (σ := σ) (throughOf_ok (ft := ft) (fo := fo) Q.tb Q.r0 Q.r7 (by omega) Q.ox) (by simp) (by simp)
    obtain ⟨hl1, hl2⟩ := runR_len (T := T) (room := room) (o := o)
    have hthr : thrL T room o = putAll o.length o (runR T room o).thrs o.length := by simp [thrL, hE]
    have hne : (thrL T room o).isEmpty = false := by
      have : (thrL T room o).length = o.length := by rw [hthr]; simp
      cases h : thrL T room o with
      | nil => rw [h] at this; simp at this; omega
      | cons => rfl
    simp
    refine h5 _ _ _ ?_
    clear h5 K5
    refine ab_seq_k fun K8 h8 => ?_
    simp [take_towC]
    refine callK_of (hth _) ?_
    simp [take_towC]
    refine h8 _ _ _ ?_
    clear h8 K8
    refine ab_seq_k fun K9 h9 => ?_
    simp
    refine ⟨by omega, by omega, ?_⟩
    refine h9 _ _ _ ?_
    clear h9 K9
    rw [rep_ints]
    refine ab_seq_k fun K10 h10 => ?_
    refine ab_seq_k fun K11 h11 => ?_
    simp
    refine h11 _ _ _ ?_
    clear h11 K11
    refine ab_block_k fun K12 h12 => ?_
    refine ab_loop_k (fun m env σ => ∃ i : Nat, i + m = o.length ∧ env = [(1, sl o fo), (6, .ss (ints (runR T room o).thrs) o.length (o.length == 0)), (7, .s 1 0 0 o.length 1), (8, .i .i64 i)] ∧
        σ = [.row 0 (towC T ft room), .row 0 (ints (putAll o.length o (runR T room o).thrs i))]) o.length ⟨0, by omega, by simp, by simp [putAll]⟩ ?_
    rintro m env σ ⟨i, hi, rfl, rfl⟩ K13 h13
    rw [ic18_0]
    refine ab_seq_k fun K14 h14 => ?_
    refine ab_seq_k fun K15 h15 => ?_
    simp
    refine h15 _ _ _ ?_
    clear h15 K15
    refine ab_cond_of rfl (fun hc => ?_) (fun hc => ?_)
    · have hil : i < o.length := by simpa using hc
      obtain ⟨x, hx⟩ : ∃ x, o[i]? = some x := ⟨_, List.getElem?_eq_getElem hil⟩
      obtain ⟨hxx, hx'⟩ := List.getElem?_eq_some_iff.1 hx
      obtain ⟨hx0, hxT⟩ := Q.ox x (List.mem_of_getElem? hx)
      have hxo : o.getD i 0 = x := by rw [List.getD_eq_getElem?_getD, hx]; rfl
      have hq : (runR T room o).thrs[i]? = some ((runR T room o).thrs.getD i 0) := by rw [List.getD_eq_getElem?_getD, List.getElem?_eq_getElem (by omega)]; rfl
      obtain ⟨hq1, hq2⟩ := List.getElem?_eq_some_iff.1 hq
      have hxl : x < o.length := by omega
      have hxn : x.toNat < o.length := by omega
      have hps := putAll_succ (n := o.length) (o := o) (th := (runR T room o).thrs) (i := i)
      rw [hxo] at hps
      generalize (runR T room o).thrs.getD i 0 = y at *
      simp
      refine h14 _ _ _ ?_
      clear h14 K14
      refine ab_seq_k fun K16 h16 => ?_
      refine ab_block_k fun K17 h17 => ?_
      simp [hil, hx, hx', hq, hq2, hx0, hxl, hxn]
      rw [ints_set]
      rw [← hps]
      refine h17 _ _ _ ?_
      refine h16 _ _ _ ?_
      simp [wrap64 (x := (i : Int) + 1) (by omega) (by omega)]
      exact h13 _ _ _ (again (m - 1) (by omega) ⟨i + 1, by omega, by simp, rfl⟩)
    · have hil : i = o.length := by simp at hc; omega
      subst hil
      rw [← hthr]
      simp
      refine h12 _ _ _ ?_
      refine h10 _ _ _ ?_
      refine ab_seq_k fun K18 h18 => ?_
      simp
      refine h18 _ _ _ ?_
      clear h18 K18
      simp
      have hlen : (thrL T room o).length = o.length := by rw [hthr]; simp
      refine fin_of 3 ?_
      refine ⟨?_, .inr trivial⟩
      rw [show thrV T room o = .tup [.ss (ints (thrL T room o)) (thrL T room o).length false, .i .i64 0] by simp [thrV, hE, hne]]
      refine frz_two ?_
      rw [← hlen]
      exact frz_ints (k := 0) (l := thrL T room o) (by rfl) (Nat.zero_le _)
end Go.Ab
