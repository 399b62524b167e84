/- Books by their debts: what several laws use. -/
import Derived.Test.YtgaijhpekajflaaST
set_option linter.unusedVariables false
set_option linter.unusedSimpArgs false
set_option maxHeartbeats 4000000
set_option maxRecDepth 100000
namespace Go.Ab
open Go Go.Proofs

theorem balF_app {A B : List Db} {i : Nat} : balF (A ++ B) i = balF A i + balF B i := by
  refine snoc_ind (P := fun B => balF (A ++ B) i = balF A i + balF B i) ?_ ?_ B
  · rw [List.append_nil, balF_nil, Int.add_zero]
  · intro B d ih
    rw [← List.append_assoc, balF_snoc, balF_snoc, ih]
    omega
theorem book_mk {n : Int} {D : List Db} (h1 : 1 ≤ n) (h2 : n ≤ 10) (h3 : D.length ≤ 40) (h4 : DbOK n 1000000 D) (h5 : (D.map pr).Nodup) : checkBook n D = 0 := by
  have e0 : fit 1 10 n = true := by unfold fit; simp; omega
  have e1 : (D.any (strayD n)) = false := by
    rw [List.any_eq_false]
    intro d hd
    have := h4 d hd
    rw [stray_is]
    simp [isDebtB]
    omega
  have e2 : (D.any fun d => !fit 1 1000000 d.2.2) = false := by
    rw [List.any_eq_false]
    intro d hd
    have := h4 d hd
    unfold fit
    simp
    omega
  have e3 : checkD n D 1000000 = 0 := by
    unfold checkD
    rw [if_neg (by rw [e1]; simp), if_neg (by rw [e2]; simp)]
  unfold checkBook
  rw [if_neg (by rw [e0]; simp; omega), if_neg (by rw [e3]; simp), if_pos h5]
end Go.Ab
