/- The law SwapJoined; its control form is made by program. -/
import Derived.Test.YtgaijhpekajflaaUJ
set_option linter.unusedVariables false
set_option linter.unusedSimpArgs false
set_option maxHeartbeats 4000000
set_option maxRecDepth 100000
namespace Go.Ab
open Go Go.Proofs


def ic11_0 : IC := (.seq (.seq (.reg [.op (some 61) none (.mov (.t 12)), .op (some 62) none (.fad 1 (.t 6)), .op (some 63) none (.load1 (.t 62)), .op (some 64) none (.len (.t 63)), .op (some 65) none (.bin .lss (.t 61) (.t 64))] (some [2, 3, 4, 5, 6, 11, 12, 65])) (.cond (.t 65) .skip (.exit 0))) (.seq (.block 1 (.drw [(.op (some 68) none (.fad 1 (.t 11)), []), (.op (some 69) none (.load1 (.t 68)), []), (.op (some 70) none (.fad 0 (.t 5)), []), (.op (some 71) none (.load1 (.t 70)), []), (.op (some 72) none (.fad 1 (.t 6)), []), (.op (some 73) none (.load1 (.t 72)), []), (.op (some 74) none (.mov (.t 12)), []), (.op (some 75) none (.ixs 3 (.t 73) (.t 74)), []), (.op (some 76) none (.fad 0 (.t 75)), []), (.op (some 77) none (.load1 (.t 76)), []), (.op (some 78) none (.bin .add (.t 71) (.t 77)), []), (.op (some 79) none (.fad 0 (.t 5)), []), (.op (some 80) none (.load1 (.t 79)), []), (.op (some 81) none (.fad 1 (.t 6)), []), (.op (some 82) none (.load1 (.t 81)), []), (.op (some 83) none (.mov (.t 12)), []), (.op (some 84) none (.ixs 3 (.t 82) (.t 83)), []), (.op (some 85) none (.fad 1 (.t 84)), []), (.op (some 86) none (.load1 (.t 85)), []), (.op (some 87) none (.bin .add (.t 80) (.t 86)), []), (.op (some 88) none (.fad 1 (.t 6)), []), (.op (some 89) none (.load1 (.t 88)), []), (.op (some 90) none (.mov (.t 12)), []), (.op (some 91) none (.ixs 3 (.t 89) (.t 90)), []), (.op (some 92) none (.fad 2 (.t 91)), []), (.op (some 93) none (.load1 (.t 92)), []), (.call (some 94) none 48 [(.t 78), (.t 87), (.t 93)], []), (.op (some 95) none (.bsl true 3 1 [(.i .i64 0), (.i .i64 0), (.i .i64 0)] [(0, 3, (.t 94))]), []), (.op (some 96) none (.app 3 24 (.t 69) (.t 95)), []), (.op (some 97) none (.fad 1 (.t 11)), []), (.op none none (.store1 (.t 97) (.t 96)), [])] (some [2, 3, 4, 5, 6, 11, 12]))) (.reg [.op (some 66) none (.mov (.t 12)), .op (some 67) none (.bin .add (.t 66) (.c (.i .i64 1))), .op (some 12) none (.mov (.t 67))] (some [2, 3, 4, 5, 6, 11, 12]))))
def ic11 : IC := (.seq (.reg [.op (some 5) none (.box (.t 0)), .op (some 6) none (.box (.t 1)), .op (some 10) none (.mov (.c (.b false)))] (some [2, 3, 4, 5, 6])) (.seq (.seq (.reg [.op (some 24) none (.loadA 2 (.t 5)), .call (some 25) none 45 [(.t 24)], .op (some 26) none (.not (.t 25)), .op (some 27) none (.mov (.t 26)), .op (some 28) (some (27, false)) (.loadA 2 (.t 6)), .call (some 29) (some (27, false)) 45 [(.t 28)], .op (some 30) (some (27, false)) (.not (.t 29)), .op (some 31) none (.pick (.t 27) (.c (.b true)) (.t 30)), .op (some 32) none (.mov (.t 31)), .op (some 33) (some (32, false)) (.fad 0 (.t 5)), .op (some 34) (some (32, false)) (.load1 (.t 33)), .op (some 35) (some (32, false)) (.fad 0 (.t 6)), .op (some 36) (some (32, false)) (.load1 (.t 35)), .op (some 37) (some (32, false)) (.bin .add (.t 34) (.t 36)), .op (some 38) (some (32, false)) (.bin .gtr (.t 37) (.c (.i .i64 10))), .op (some 39) none (.pick (.t 32) (.c (.b true)) (.t 38)), .op (some 40) none (.mov (.t 39)), .op (some 41) (some (40, false)) (.fad 1 (.t 5)), .op (some 42) (some (40, false)) (.load1 (.t 41)), .op (some 43) (some (40, false)) (.len (.t 42)), .op (some 44) (some (40, false)) (.fad 1 (.t 6)), .op (some 45) (some (40, false)) (.load1 (.t 44)), .op (some 46) (some (40, false)) (.len (.t 45)), .op (some 47) (some (40, false)) (.bin .add (.t 43) (.t 46)), .op (some 48) (some (40, false)) (.bin .gtr (.t 47) (.c (.i .i64 40))), .op (some 49) none (.pick (.t 40) (.c (.b true)) (.t 48))] (some [2, 3, 4, 5, 6, 49])) (.cond (.t 49) (.seq (.reg [.call (some 50) none 18 [], .op (some 10) none (.mov (.t 50))] (some [10])) .ret) .skip)) (.seq (.alt [[(.op (some 51) none (.fad 0 (.t 5)), [8, 10]), (.op (some 52) none (.load1 (.t 51)), [8, 10]), (.op (some 53) none (.fad 0 (.t 6)), [8, 10]), (.op (some 54) none (.load1 (.t 53)), [8, 10]), (.op (some 55) none (.bin .add (.t 52) (.t 54)), [8, 10]), (.op (some 56) none (.bsl true 3 0 [] []), []), (.op (some 57) none (.fad 1 (.t 5)), []), (.op (some 58) none (.load1 (.t 57)), []), (.op (some 59) none (.app 3 24 (.t 56) (.t 58)), []), (.call (some 60) none 49 [(.t 55), (.t 59)], [10]), (.op (some 11) none (.alloc [(.i .i64 0), (.ss [] 0 true)]), []), (.op none none (.storeA 2 (.t 11) (.t 60)), [])], [(.op (some 51) none (.fad 0 (.t 5)), [8, 9]), (.op (some 52) none (.load1 (.t 51)), [8, 9]), (.op (some 53) none (.fad 0 (.t 6)), [8, 9]), (.op (some 54) none (.load1 (.t 53)), [8, 9]), (.op (some 55) none (.bin .add (.t 52) (.t 54)), [8, 9]), (.op (some 56) none (.bsl true 3 0 [] []), [8]), (.op (some 57) none (.fad 1 (.t 5)), [8]), (.op (some 58) none (.load1 (.t 57)), [8]), (.op (some 11) none (.alloc [(.i .i64 0), (.ss [] 0 true)]), []), (.op (some 59) none (.app 3 24 (.t 56) (.t 58)), []), (.call (some 60) none 49 [(.t 55), (.t 59)], []), (.op none none (.storeA 2 (.t 11) (.t 60)), [])]] (some [2, 3, 4, 5, 6, 11])) (.seq (.seq (.reg [.op (some 12) none (.mov (.c (.i .i64 0)))] (some [2, 3, 4, 5, 6, 11, 12])) (.block 0 (.loop (some [2, 3, 4, 5, 6, 11, 12]) ic11_0))) (.seq (.reg [.op (some 99) none (.loadA 2 (.t 5)), .call (some 100) none 26 [(.t 99)], .op (some 98) none (.mov (.t 100)), .op (some 101) none (.ext 0 (.t 98)), .op (some 102) none (.ext 1 (.t 98)), .op (some 13) none (.mov (.t 101)), .op (some 14) none (.mov (.t 102))] (some [2, 3, 4, 6, 11, 13, 14])) (.seq (.reg [.op (some 104) none (.loadA 2 (.t 6)), .call (some 105) none 26 [(.t 104)], .op (some 103) none (.mov (.t 105)), .op (some 106) none (.ext 0 (.t 103)), .op (some 107) none (.ext 1 (.t 103)), .op (some 15) none (.mov (.t 106)), .op (some 16) none (.mov (.t 107))] (some [2, 3, 4, 11, 13, 14, 15, 16])) (.seq (.reg [.op (some 109) none (.loadA 2 (.t 11)), .call (some 110) none 26 [(.t 109)], .op (some 108) none (.mov (.t 110)), .op (some 111) none (.ext 0 (.t 108)), .op (some 112) none (.ext 1 (.t 108)), .op (some 17) none (.mov (.t 111)), .op (some 18) none (.mov (.t 112))] (some [2, 3, 4, 11, 13, 14, 15, 16, 17, 18])) (.seq (.seq (.reg [.op (some 113) none (.mov (.t 14)), .op (some 114) none (.bin .neq (.t 113) (.c (.i .i64 0))), .op (some 115) none (.mov (.t 114)), .op (some 116) (some (115, false)) (.mov (.t 16)), .op (some 117) (some (115, false)) (.bin .neq (.t 116) (.c (.i .i64 0))), .op (some 118) none (.pick (.t 115) (.c (.b true)) (.t 117)), .op (some 119) none (.mov (.t 118)), .op (some 120) (some (119, false)) (.mov (.t 18)), .op (some 121) (some (119, false)) (.bin .neq (.t 120) (.c (.i .i64 0))), .op (some 122) none (.pick (.t 119) (.c (.b true)) (.t 121)), .op (some 123) none (.mov (.t 122)), .op (some 124) (some (123, false)) (.mov (.t 17)), .op (some 125) (some (123, false)) (.bin .lss (.t 124) (.c (.i .i64 0))), .op (some 126) none (.pick (.t 123) (.c (.b true)) (.t 125)), .op (some 127) none (.mov (.t 126)), .op (some 128) (some (127, false)) (.mov (.t 17)), .op (some 129) (some (127, false)) (.mov (.t 13)), .op (some 130) (some (127, false)) (.mov (.t 15)), .op (some 131) (some (127, false)) (.bin .add (.t 129) (.t 130)), .op (some 132) (some (127, false)) (.bin .gtr (.t 128) (.t 131)), .op (some 133) none (.pick (.t 127) (.c (.b true)) (.t 132))] (some [2, 3, 4, 11, 17, 133])) (.cond (.t 133) (.seq (.reg [.op (some 10) none (.mov (.c (.b false)))] (some [10])) .ret) .skip)) (.seq (.reg [.op (some 134) none (.mov (.t 2)), .op (some 135) none (.conv .i64 (.t 134)), .op (some 136) none (.fad 0 (.t 11)), .op (some 137) none (.load1 (.t 136)), .op (some 138) none (.bin .rem (.t 135) (.t 137)), .op (some 19) none (.mov (.t 138))] (some [3, 4, 11, 17, 19])) (.seq (.drw [(.op (some 139) none (.mov (.t 19)), []), (.op (some 140) none (.bin .add (.t 139) (.c (.i .i64 1))), []), (.op (some 141) none (.mov (.t 3)), []), (.op (some 142) none (.conv .i64 (.t 141)), []), (.op (some 143) none (.fad 0 (.t 11)), []), (.op (some 144) none (.load1 (.t 143)), []), (.op (some 145) none (.bin .sub (.t 144) (.c (.i .i64 1))), []), (.op (some 146) none (.bin .rem (.t 142) (.t 145)), []), (.op (some 147) none (.bin .add (.t 140) (.t 146)), []), (.op (some 148) none (.fad 0 (.t 11)), []), (.op (some 149) none (.load1 (.t 148)), []), (.op (some 150) none (.bin .rem (.t 147) (.t 149)), []), (.op (some 20) none (.mov (.t 150)), [])] (some [4, 11, 17, 19, 20])) (.seq (.alt [[(.op (some 151) none (.fad 0 (.t 11)), [11, 14, 16]), (.op (some 152) none (.load1 (.t 151)), [11, 14, 16]), (.op (some 153) none (.bsl true 3 0 [] []), []), (.op (some 154) none (.fad 1 (.t 11)), []), (.op (some 155) none (.load1 (.t 154)), []), (.op (some 157) none (.mov (.t 19)), [11]), (.op (some 158) none (.mov (.t 20)), [11]), (.op (some 159) none (.mov (.t 4)), [11]), (.op (some 160) none (.conv .i64 (.t 159)), [11]), (.op (some 161) none (.bin .rem (.t 160) (.c (.i .i64 1000000))), [11]), (.op (some 162) none (.bin .add (.c (.i .i64 1)) (.t 161)), [11]), (.op (some 156) none (.app 3 24 (.t 153) (.t 155)), []), (.call (some 163) none 48 [(.t 157), (.t 158), (.t 162)], []), (.op (some 164) none (.bsl true 3 1 [(.i .i64 0), (.i .i64 0), (.i .i64 0)] [(0, 3, (.t 163))]), []), (.op (some 165) none (.app 3 24 (.t 156) (.t 164)), []), (.call (some 166) none 49 [(.t 152), (.t 165)], [16]), (.op (some 21) none (.alloc [(.i .i64 0), (.ss [] 0 true)]), []), (.op none none (.storeA 2 (.t 21) (.t 166)), [])], [(.op (some 151) none (.fad 0 (.t 11)), [11, 14, 15]), (.op (some 152) none (.load1 (.t 151)), [11, 14, 15]), (.op (some 153) none (.bsl true 3 0 [] []), []), (.op (some 154) none (.fad 1 (.t 11)), []), (.op (some 155) none (.load1 (.t 154)), []), (.op (some 157) none (.mov (.t 19)), [11, 14]), (.op (some 158) none (.mov (.t 20)), [11, 14]), (.op (some 159) none (.mov (.t 4)), [11, 14]), (.op (some 160) none (.conv .i64 (.t 159)), [11, 14]), (.op (some 161) none (.bin .rem (.t 160) (.c (.i .i64 1000000))), [11, 14]), (.op (some 162) none (.bin .add (.c (.i .i64 1)) (.t 161)), [11, 14]), (.op (some 156) none (.app 3 24 (.t 153) (.t 155)), []), (.call (some 163) none 48 [(.t 157), (.t 158), (.t 162)], [14]), (.op (some 164) none (.bsl true 3 1 [(.i .i64 0), (.i .i64 0), (.i .i64 0)] [(0, 3, (.t 163))]), [14]), (.op (some 21) none (.alloc [(.i .i64 0), (.ss [] 0 true)]), []), (.op (some 165) none (.app 3 24 (.t 156) (.t 164)), []), (.call (some 166) none 49 [(.t 152), (.t 165)], []), (.op none none (.storeA 2 (.t 21) (.t 166)), [])], [(.op (some 151) none (.fad 0 (.t 11)), [11, 12, 15]), (.op (some 152) none (.load1 (.t 151)), [11, 12, 15]), (.op (some 153) none (.bsl true 3 0 [] []), [11]), (.op (some 154) none (.fad 1 (.t 11)), [11]), (.op (some 155) none (.load1 (.t 154)), [11]), (.op (some 157) none (.mov (.t 19)), [11, 12]), (.op (some 158) none (.mov (.t 20)), [11, 12]), (.op (some 159) none (.mov (.t 4)), [11, 12]), (.op (some 160) none (.conv .i64 (.t 159)), [11, 12]), (.op (some 161) none (.bin .rem (.t 160) (.c (.i .i64 1000000))), [11, 12]), (.op (some 162) none (.bin .add (.c (.i .i64 1)) (.t 161)), [11, 12]), (.op (some 21) none (.alloc [(.i .i64 0), (.ss [] 0 true)]), []), (.op (some 156) none (.app 3 24 (.t 153) (.t 155)), []), (.call (some 163) none 48 [(.t 157), (.t 158), (.t 162)], []), (.op (some 164) none (.bsl true 3 1 [(.i .i64 0), (.i .i64 0), (.i .i64 0)] [(0, 3, (.t 163))]), []), (.op (some 165) none (.app 3 24 (.t 156) (.t 164)), []), (.call (some 166) none 49 [(.t 152), (.t 165)], []), (.op none none (.storeA 2 (.t 21) (.t 166)), [])]] (some [17, 21])) (.seq (.seq (.reg [.op (some 167) none (.loadA 2 (.t 21)), .call (some 168) none 22 [(.t 167)], .op (some 169) none (.bin .neq (.t 168) (.c (.i .i64 0)))] (some [17, 21, 169])) (.cond (.t 169) (.seq (.reg [.call (some 170) none 18 [], .op (some 10) none (.mov (.t 170))] (some [10])) .ret) .skip)) (.seq (.reg [.op (some 172) none (.loadA 2 (.t 21)), .call (some 173) none 26 [(.t 172)], .op (some 171) none (.mov (.t 173)), .op (some 174) none (.ext 0 (.t 171)), .op (some 175) none (.ext 1 (.t 171)), .op (some 22) none (.mov (.t 174)), .op (some 23) none (.mov (.t 175))] (some [17, 22, 23])) (.seq (.reg [.op (some 176) none (.mov (.t 23)), .op (some 177) none (.bin .eql (.t 176) (.c (.i .i64 0))), .op (some 178) none (.mov (.t 177)), .op (some 179) (some (178, true)) (.mov (.t 22)), .op (some 180) (some (178, true)) (.mov (.t 17)), .op (some 181) (some (178, true)) (.bin .add (.t 180) (.c (.i .i64 1))), .op (some 182) (some (178, true)) (.bin .leq (.t 179) (.t 181)), .op (some 183) none (.pick (.t 178) (.t 182) (.c (.b false))), .op (some 184) none (.mov (.t 183)), .op (some 185) (some (184, true)) (.mov (.t 22)), .op (some 186) (some (184, true)) (.mov (.t 17)), .op (some 187) (some (184, true)) (.bin .sub (.t 186) (.c (.i .i64 1))), .op (some 188) (some (184, true)) (.bin .geq (.t 185) (.t 187)), .op (some 189) none (.pick (.t 184) (.t 188) (.c (.b false))), .op (some 190) none (.mov (.t 189)), .call (some 191) (some (190, true)) 18 [], .op (some 192) none (.pick (.t 190) (.t 191) (.c (.b false))), .op (some 10) none (.mov (.t 192))] (some [10])) .ret))))))))))))))
def rs11 : List IRes := [.tmp 10]
theorem fn11 : Fn_ Try.prog 11 Try.f11 [] ic11 rs11 := ⟨by kernel_rfl, by decide, by kernel_rfl, by kernel_rfl⟩

theorem Gr.below {k es n : Nat} {σ : List O} {v : V} {cs : List V} (h : Gr k es σ v n cs) (j : Nat) (τ : List O) : frz (j + 1) σ.length τ v = v := by
  rcases h.cases with ⟨-, -, rfl⟩ | ⟨id, ver, hn, hid, rfl, hs, hlt⟩
  · exact frz_pure (by simp)
  · rw [frz]
    simp only [V.pure, Bool.false_eq_true, if_false]
    rw [if_pos hlt]
theorem book49G {n : Int} {k es m : Nat} {σ : List O} {v : V} {cs : List V} (h : Gr k es σ v m cs) : FSpec Try.prog 49 [.i .i64 n, v] σ (.agg [.i .i64 n, v]) σ := by
  refine fn49.spec mixed noIt_ok ?_
  rw [ic49]
  refine ab_seq_k fun K1 h1 => ?_
  simp
  refine h1 _ _ _ ?_
  clear h1 K1
  refine ab_seq_k fun K2 h2 => ?_
  simp [h.one]
  refine h2 _ _ _ ?_
  clear h2 K2
  simp
  unfold finK
  simp [rs49, h.one]
  refine ⟨3, σ.length, Nat.le_refl _, by omega, ?_, .inr rfl⟩
  rw [frz]
  split
  · rfl
  · simp only [List.map_cons, List.map_nil]
    rw [h.below 1, frz_pure rfl]
theorem book_frz {k : Nat} {n : Int} {v : V} {m : Nat} {X : List Db} {σ : List O} (h : Gr k 3 σ v m (lsD X)) (hm : X.length = m) : ([.agg [.i .i64 n, v]] : List V).map (frz 3 0 σ) = [bookV n X (m == 0)] := by
  have e : frz 3 0 σ (.agg [.i .i64 n, v]) = bookV n X (m == 0) := by
    rw [frz_agg2 (frz_pure rfl) (frz_G h (by simp))]
    subst hm; rfl
  rw [List.map_cons, e]; rfl
theorem pairs_join {N M : Nat} {D E : List Db} (hD : DbOK N 1000000 D) (hE : DbOK M 1000000 E) : DbOK ((N + M : Nat) : Int) 1000000 (D ++ shiftD N E) := by
  intro d hd
  rcases List.mem_append.1 hd with hd | hd
  · have := hD d hd; omega
  · obtain ⟨e, he, rfl⟩ := List.mem_map.1 hd
    have := hE e he
    simp only
    omega
theorem join_ok {N M : Nat} {D E : List Db} (h1 : checkBook N D = 0) (h2 : checkBook M E = 0) (hm : N + M ≤ 10) (hl : D.length + E.length ≤ 40) : checkBook ((N + M : Nat) : Int) (D ++ shiftD N E) = 0 := by
  obtain ⟨⟨n1, n2⟩, hlen, hD, hnd⟩ := book_ok h1
  obtain ⟨⟨m1, m2⟩, hlenE, hE, hndE⟩ := book_ok h2
  refine book_mk (by omega) (by omega) (by simp; omega) (pairs_join hD hE) ?_
  rw [List.map_append, List.nodup_append]
  refine ⟨hnd, ?_, ?_⟩
  · unfold shiftD
    rw [List.map_map]
    have e : (E.map (pr ∘ fun d => ((N : Int) + d.1, (N : Int) + d.2.1, d.2.2))) = (E.map pr).map (List.map ((N : Int) + ·)) := by
      rw [List.map_map]
      refine List.map_congr_left fun d _ => ?_
      simp [pr]
    rw [e]
    refine List.pairwise_map.2 (List.Pairwise.imp_of_mem (fun {a b} ha hb hab h => hab ?_) hndE)
    obtain ⟨x, -, rfl⟩ := List.mem_map.1 ha
    obtain ⟨y, -, rfl⟩ := List.mem_map.1 hb
    simp [pr] at h ⊢
    omega
  · intro a ha b hb hab
    obtain ⟨x, hx, rfl⟩ := List.mem_map.1 ha
    obtain ⟨y, hy, rfl⟩ := List.mem_map.1 hb
    obtain ⟨z, hz, rfl⟩ := List.mem_map.1 hy
    have := hD x hx
    have := hE z hz
    simp [pr] at hab
    omega
theorem shiftD_take {k : Nat} {D : List Db} {i : Nat} {d : Db} (h : D[i]? = some d) : shiftD k (D.take (i + 1)) = shiftD k (D.take i) ++ [((k : Int) + d.1, (k : Int) + d.2.1, d.2.2)] := by
  rw [List.take_add_one, h]; simp [shiftD]

theorem appSrc {k es bytes n : Nat} {σ : List O} {v x : V} {cs : List V} {C : Ct} (h : Gr k es σ v n cs) (hC : appTo es bytes x σ C cs n) : appK es bytes x v σ C := by
  rcases h.cases with ⟨rfl, rfl, rfl⟩ | ⟨id, ver, hn, hid, rfl, hs, hlt⟩
  · simp only [appK_ss]
    exact ⟨by simp, hC⟩
  · have e : List.take (n * es) (List.drop 0 cs) = cs := by rw [List.drop_zero]; exact List.take_of_length_le (by rw [h.1]; omega)
    simp only [appK_s, hs, rrow_row]
    rw [e]
    exact ⟨trivial, trivial, by simp [h.1], hC⟩
theorem appGn {k es bytes m : Nat} {σ : List O} {ys : List V} {C : Ct} (hk : k ≤ σ.length) (hb : m * bytes ≤ 140737488355328) (hy : ys.length = m * es)
    (hC : ∀ v' σ', Gr k es σ' v' m ys → Grew (.ss [] 0 true) v' σ σ' → C v' σ') : appTo es bytes (.ss [] 0 true) σ C ys m := by
  by_cases hm : m = 0
  · subst hm
    have hy0 : ys = [] := List.eq_nil_of_length_eq_zero (by omega)
    subst hy0
    simp
    exact hC _ _ .nil ⟨Nat.le_refl _, fun _ _ _ => rfl, .inl rfl⟩
  · refine appG (k := k) (n := 0) (cs := []) .nil hk (by rw [Nat.zero_add]; exact hb) hm hy (fun v' σ' h1 h2 => hC v' σ' ?_ h2)
    simpa using h1
theorem swapJoined {n m fr to su : Int} {D E : List Db} {f g : Bool} (hl : (D.length : Int) < 9223372036854775808) (hlE : (E.length : Int) < 9223372036854775808) (h1 : 0 ≤ fr ∧ fr < 256) (h2 : 0 ≤ to ∧ to < 256) (h3 : 0 ≤ su ∧ su < 4294967296) :
    FSpec Try.prog 11 [bookV n D f, bookV m E g, .i .u8 fr, .i .u8 to, .i .u32 su] [] (.b true) [] := by
  refine fn11.spec0 mixed noIt_ok ?_
  rw [ic11]
  have G1 := fun σ => FSpec.frame (σ := σ) (fine45 (n := n) (D := D) (f := f) hl) (by simp) rfl
  have G2 := fun σ => FSpec.frame (σ := σ) (fine45 (n := m) (D := E) (f := g) hlE) (by simp) rfl
  refine ab_seq_k fun K1 h1 => ?_
  simp
  refine h1 _ _ _ ?_
  clear h1 K1
  refine ab_seq_k fun K2 h2 => ?_
  refine ab_seq_k fun K3 h3 => ?_
  simp [take_bookC, get0_bookC, get1_bookC]
  refine callK_of (G1 _) ?_
  by_cases hcD : checkBook n D = 0
  case neg =>
    simp [take_bookC, fineB, hcD]
    refine h3 _ _ _ ?_
    refine ab_cond_of rfl (fun _ => ?_) (fun h => by simp at h)
    refine ab_seq_k fun K4 h4 => ?_
    simp
    refine callK_of (wk _) ?_
    simp
    refine h4 _ _ _ ?_
    clear h4 K4
    simp
    exact fin_of 1 (by simp [rs11])
  simp [take_bookC, fineB, hcD]
  refine callK_of (G2 _) ?_
  by_cases hcE : checkBook m E = 0
  case neg =>
    simp [take_bookC, fineB, hcE]
    refine h3 _ _ _ ?_
    refine ab_cond_of rfl (fun _ => ?_) (fun h => by simp at h)
    refine ab_seq_k fun K4 h4 => ?_
    simp
    refine callK_of (wk _) ?_
    simp
    refine h4 _ _ _ ?_
    clear h4 K4
    simp
    exact fin_of 1 (by simp [rs11])
  obtain ⟨N, rfl, hN1, hN, hlen, hD⟩ := book_nat hcD
  obtain ⟨M, rfl, hM1, hM, hlenE, hE⟩ := book_nat hcE
  have w1 : IntKind.i64.wrap ((N : Int) + (M : Int)) = ((N + M : Nat) : Int) := by rw [wrap64 (by omega) (by omega)]; simp
  have w2 : IntKind.i64.wrap ((D.length : Int) + (E.length : Int)) = ((D.length + E.length : Nat) : Int) := by rw [wrap64 (by omega) (by omega)]; simp
  by_cases c10 : 10 < N + M
  · have c10' : (10 : Int) < (N : Int) + M := by omega
    simp [take_bookC, fineB, hcE, get0_bookC, get1_bookC, w1, c10']
    refine h3 _ _ _ ?_
    refine ab_cond_of rfl (fun _ => ?_) (fun h => by simp at h)
    refine ab_seq_k fun K4 h4 => ?_
    simp
    refine callK_of (wk _) ?_
    simp
    refine h4 _ _ _ ?_
    clear h4 K4
    simp
    exact fin_of 1 (by simp [rs11])
  have c10' : ¬ (10 : Int) < (N : Int) + M := by omega
  by_cases c40 : 40 < D.length + E.length
  · have c40' : (40 : Int) < (D.length : Int) + E.length := by omega
    simp [take_bookC, fineB, hcE, get0_bookC, get1_bookC, w1, c10', w2, c40']
    refine h3 _ _ _ ?_
    refine ab_cond_of rfl (fun _ => ?_) (fun h => by simp at h)
    refine ab_seq_k fun K4 h4 => ?_
    simp
    refine callK_of (wk _) ?_
    simp
    refine h4 _ _ _ ?_
    clear h4 K4
    simp
    exact fin_of 1 (by simp [rs11])
  have c40' : ¬ (40 : Int) < (D.length : Int) + E.length := by omega
  simp [take_bookC, fineB, hcE, get0_bookC, get1_bookC, w1, c10', w2, c40']
  refine h3 _ _ _ ?_
  refine ab_cond_of rfl (fun h => by simp at h) (fun _ => ?_)
  simp
  refine h2 _ _ _ ?_
  clear h2 h3 K2 K3 G1 G2
  have hJ := join_ok hcD hcE (by omega) (by omega)
  have htop := top_join hD hE
  have hJD := pairs_join hD hE
  have t1 := topP_b (N := N) (D := D)
  have t2 := topP_b (N := M) (D := E)
  have t3 := topP_b (N := N + M) (D := D ++ shiftD N E)
  have F1 := fun σ => FSpec.frame (σ := σ) (fewest26 (n := N) (D := D) (f := f) hl) (by simp) rfl
  have F2 := fun σ => FSpec.frame (σ := σ) (fewest26 (n := M) (D := E) (f := g) hlE) (by simp) rfl
  rw [fewP_ok hcD] at F1
  rw [fewP_ok hcE] at F2
  simp only [pairV] at F1 F2
  have F3 := fewP_ok hJ
  obtain ⟨P, hP⟩ : ∃ P : Nat, P = N + M := ⟨_, rfl⟩
  have wP : IntKind.i64.wrap ((N : Int) + (M : Int)) = (P : Int) := by rw [hP]; exact w1
  rw [← hP] at hJ hJD F3 t3 htop
  have hP2 : 2 ≤ P := by omega
  have hP10 : P ≤ 10 := by omega
  refine ab_seq_k fun K5 h5 => ?_
  have hK : ∀ (ix : Nat) (v : V) env σ, 2 ≤ ix → get env 2 = .i .u8 fr → get env 3 = .i .u8 to → get env 4 = .i .u32 su → get env 5 = .p 0 0 0 → get env 6 = .p 1 0 0 → get env 11 = .p ix 0 0 → σ[0]? = some (O.row 0 (bookC N D f)) → σ[1]? = some (O.row 0 (bookC M E g)) →
      σ[ix]? = some (O.row 0 [.i .i64 P, v]) → Gr 2 3 σ v D.length (lsD D) → idOf v ≠ some ix → K5 (some 0) env σ := by
    intro ix v env σ hix w2 w3 w4 w5 w6 w11 s0 s1 sx hv hne
    refine h5 _ _ _ ?_
    clear h5 K5
    refine ab_seq_k fun K7 h7 => ?_
    refine ab_seq_k fun K8 h8 => ?_
    simp [w2, w3, w4, w5, w6, w11]
    refine h8 _ _ _ ?_
    clear h8 K8
    refine ab_block_k fun K9 h9 => ?_
    refine ab_loop_k (fun m env σ => ∃ (i : Nat) (v : V), i + m = E.length ∧ env = [(2, .i .u8 fr), (3, .i .u8 to), (4, .i .u32 su), (5, .p 0 0 0), (6, .p 1 0 0), (11, .p ix 0 0), (12, .i .i64 i)] ∧ σ[0]? = some (O.row 0 (bookC N D f)) ∧ σ[1]? = some (O.row 0 (bookC M E g)) ∧
      σ[ix]? = some (O.row 0 [.i .i64 P, v]) ∧ Gr 2 3 σ v (D.length + i) (lsD (D ++ shiftD N (E.take i))) ∧ idOf v ≠ some ix) E.length ⟨0, v, by omega, by simp [w2, w3, w4, w5, w6, w11], s0, s1, sx, by simpa [shiftD] using hv, hne⟩ ?_
    clear s0 s1 sx hv hne w2 w3 w4 w5 w6 w11
    rintro m1 env σ ⟨i, v, hi, rfl, s0, s1, sx, hv, hne⟩ K10 h10
    obtain ⟨s0l, s0'⟩ := List.getElem?_eq_some_iff.1 s0
    obtain ⟨s1l, s1'⟩ := List.getElem?_eq_some_iff.1 s1
    obtain ⟨sxl, sx'⟩ := List.getElem?_eq_some_iff.1 sx
    rw [ic11_0]
    refine ab_seq_k fun K11 h11 => ?_
    refine ab_seq_k fun K12 h12 => ?_
    simp [s1, s1', get1_bookC]
    refine h12 _ _ _ ?_
    clear h12 K12
    refine ab_cond_of rfl (fun hc2 => ?_) (fun hc2 => ?_)
    · have hil : i < E.length := by simpa using hc2
      obtain ⟨d, hd⟩ : ∃ d, E[i]? = some d := ⟨_, List.getElem?_eq_getElem hil⟩
      obtain ⟨z1, z2, z3, z4⟩ := lsD_get hd
      obtain ⟨z2l, z2'⟩ := List.getElem?_eq_some_iff.1 z2
      obtain ⟨z3l, z3'⟩ := List.getElem?_eq_some_iff.1 z3
      obtain ⟨z4l, z4'⟩ := List.getElem?_eq_some_iff.1 z4
      have hdm := hE d (List.mem_of_getElem? hd)
      have hst := shiftD_take (k := N) hd
      simp
      refine h11 _ _ _ ?_
      clear h11 K11
      refine ab_seq_k fun K13 h13 => ?_
      refine ab_block_k fun K14 h14 => ?_
      simp [abDs_consU, drU, recheck_cons, recheck_nil, rcK, IS.dst, s0, s0', s1, s1', sx, sx', get0_bookC, get1_bookC, hil, z2, z2', z3, z3', z4, z4', wrap64 (x := (N : Int) + d.1) (by omega) (by omega), wrap64 (x := (N : Int) + d.2.1) (by omega) (by omega)]
      have G48 := fun (a b c : Int) σ => FSpec.frame (σ := σ) (debt48 (a := a) (b := b) (c := c)) (by simp) (by simp)
      refine callK_of (G48 _ _ _ _) ?_
      simp [abDs_consU, drU, recheck_cons, recheck_nil, rcK, IS.dst]
      refine appG hv (by omega) (by omega) (by simp) rfl ?_
      intro v' σ2 gx gg
      have t0 := gg.lt hv (j := 0) (by omega) (by omega)
      have t1 := gg.lt hv (j := 1) (by omega) (by omega)
      have tx := gg.get hne sx
      rw [s0] at t0
      rw [s1] at t1
      have hne' : idOf v' ≠ some ix := by
        rcases gg.id with e | ⟨e1, e2⟩
        · rw [e]; exact hne
        · rw [e2]; intro h; have := Option.some.inj h; omega
      clear gg
      obtain ⟨txl, tx'⟩ := List.getElem?_eq_some_iff.1 tx
      simp [abDs_consU, drU, recheck_cons, recheck_nil, rcK, IS.dst, tx, tx']
      refine ⟨gx.one, h14 _ _ _ ?_⟩
      refine h13 _ _ _ ?_
      simp [wrap64 (x := (i : Int) + 1) (by omega) (by omega)]
      have ex : lsD (D ++ shiftD N (E.take i)) ++ [V.i IntKind.i64 ((N : Int) + d.1), V.i IntKind.i64 ((N : Int) + d.2.1), V.i IntKind.i64 d.2.2] = lsD (D ++ shiftD N (E.take (i + 1))) := by rw [hst, ← List.append_assoc, lsD_append (l := D ++ shiftD N (E.take i))]; rfl
      rw [ex] at gx
      exact h10 _ _ _ (again (m1 - 1) (by omega) ⟨i + 1, v', by omega, by simp, by rw [List.getElem?_set_ne (by omega)]; exact t0, by rw [List.getElem?_set_ne (by omega)]; exact t1, List.getElem?_set_self txl, by rw [← Nat.add_assoc]; exact gx.set hne', hne'⟩)
    have hil : i = E.length := by simp at hc2; omega
    subst hil
    rw [List.take_length] at hv
    simp
    refine h9 _ _ _ ?_
    refine h7 _ _ _ ?_
    clear h7 h9 h10 h11 K7 K9 K10 K11 hc2
    have hJl : (D ++ shiftD N E).length = D.length + E.length := by simp
    have F3' : FSpec Try.prog 26 [.agg [.i .i64 P, v]] σ (.tup [.i .i64 ((P : Int) - topP P (D ++ shiftD N E)), .i .i64 0]) σ := by
      refine FSpec.frozen 3 ?_ rfl
      rw [book_frz hv hJl]
      have := fewest26 (n := (P : Int)) (D := D ++ shiftD N E) (f := (D.length + E.length == 0)) (by rw [hJl]; omega)
      rw [F3] at this
      exact this
    generalize hJDe : D ++ shiftD N E = JD at *
    refine ab_seq_k fun K20 h20 => ?_
    simp [s0, s0', take_bookC]
    refine callK_of (F1 _) ?_
    simp [s0, s0', take_bookC]
    refine h20 _ _ _ ?_
    clear h20 K20
    refine ab_seq_k fun K21 h21 => ?_
    simp [s1, s1', take_bookC]
    refine callK_of (F2 _) ?_
    simp [s1, s1', take_bookC]
    refine h21 _ _ _ ?_
    clear h21 K21
    refine ab_seq_k fun K22 h22 => ?_
    simp [sx, sx']
    refine callK_of (F3') ?_
    simp [sx, sx']
    refine h22 _ _ _ ?_
    clear h22 K22
    refine ab_seq_k fun K23 h23 => ?_
    refine ab_seq_k fun K24 h24 => ?_
    have n1 : ¬ ((P : Int) - topP P JD < 0) := by omega
    have n2 : ¬ ((N : Int) - topP N D + ((M : Int) - topP M E) < (P : Int) - topP P JD) := by omega
    simp [n1, n2, wrap64 (x := (N : Int) - topP N D + ((M : Int) - topP M E)) (by omega) (by omega)]
    refine h24 _ _ _ ?_
    refine ab_cond_of rfl (fun h => by simp at h) (fun _ => ?_)
    simp
    refine h23 _ _ _ ?_
    clear h23 h24 K23 K24
    obtain ⟨x, hx, hxP⟩ : ∃ x : Nat, fr.tmod (P : Int) = (x : Int) ∧ x < P := by
      refine ⟨(fr % (P : Int)).toNat, ?_, ?_⟩
      · rw [Int.tmod_eq_emod_of_nonneg (by omega)]
        have := Int.emod_nonneg fr (show (P : Int) ≠ 0 by omega)
        omega
      · have := Int.emod_nonneg fr (show (P : Int) ≠ 0 by omega)
        have := Int.emod_lt_of_pos fr (show (0 : Int) < P by omega)
        omega
    have hP0 : ¬ ((P : Int) = 0) := by omega
    have hP0' : ¬ (P = 0) := by omega
    have hP1 : ¬ ((P : Int) - 1 = 0) := by omega
    refine ab_seq_k fun K25 h25 => ?_
    simp [sx, sx', wrap64 (x := fr) (by omega) (by omega), hx, hP0, hP0', wrap64 (x := (x : Int)) (by omega) (by omega)]
    refine h25 _ _ _ ?_
    clear h25 K25
    have hP1' : ((P : Int) - 1) ≠ 0 := by omega
    obtain ⟨y, hy, hyP⟩ : ∃ y : Int, ((x : Int) + 1 + to.tmod ((P : Int) - 1)).tmod (P : Int) = y ∧ 0 ≤ y ∧ y < P := by
      have a1 : 0 ≤ to.tmod ((P : Int) - 1) := Int.tmod_nonneg _ (by omega)
      refine ⟨_, rfl, Int.tmod_nonneg _ (by omega), ?_⟩
      rw [Int.tmod_eq_emod_of_nonneg (by omega)]
      exact Int.emod_lt_of_pos _ (by omega)
    have b1 : 0 ≤ to.tmod ((P : Int) - 1) ∧ to.tmod ((P : Int) - 1) < 20 := by
      refine ⟨Int.tmod_nonneg _ (by omega), ?_⟩
      rw [Int.tmod_eq_emod_of_nonneg (by omega)]
      have := Int.emod_lt_of_pos to (show (0 : Int) < (P : Int) - 1 by omega)
      omega
    refine ab_seq_k fun K26 h26 => ?_
    simp [abDs_consU, drU, recheck_cons, recheck_nil, rcK, IS.dst, sx, sx', wrap64 (x := (x : Int) + 1) (by omega) (by omega), wrap64 (x := to) (by omega) (by omega), wrap64 (x := (P : Int) - 1) (by omega) (by omega), hP1, hP1', hP0, hP0',
      wrap64 (x := to.tmod ((P : Int) - 1)) (by omega) (by omega), wrap64 (x := (x : Int) + 1 + to.tmod ((P : Int) - 1)) (by omega) (by omega), hy, wrap64 (x := y) (by omega) (by omega)]
    refine h26 _ _ _ ?_
    clear h26 K26
    obtain ⟨u, hu, hu1, hu2⟩ : ∃ u, 1 + su.tmod 1000000 = u ∧ 1 ≤ u ∧ u ≤ 1000000 := by
      refine ⟨_, rfl, ?_, ?_⟩ <;> rw [Int.tmod_eq_emod_of_nonneg h3.1] <;> omega
    have hur : 0 ≤ su.tmod 1000000 ∧ su.tmod 1000000 < 1000000 := by omega
    refine ab_seq_k fun K27 h27 => ?_
    have hK2 : ∀ (iz k : Nat) (v2 : V) env σ', get env 17 = .i .i64 ((P : Int) - topP P JD) → get env 21 = .p iz 0 0 → σ'[iz]? = some (O.row 0 [.i .i64 P, v2]) → Gr k 3 σ' v2 (D.length + E.length + 1) (lsD (JD ++ [((x : Int), y, u)])) → K27 (some 0) env σ' := by
      intro iz k v2 env σ' w17 w21 sz hv2
      obtain ⟨szl, sz'⟩ := List.getElem?_eq_some_iff.1 sz
      refine h27 _ _ _ ?_
      clear h27 K27
      have hl2 : (JD ++ [((x : Int), y, u)]).length = D.length + E.length + 1 := by simp [hJl]
      have C1 : FSpec Try.prog 22 [.agg [.i .i64 P, v2]] σ' (.i .i64 (checkBook P (JD ++ [((x : Int), y, u)]))) σ' := by
        refine FSpec.frozen 3 ?_ rfl
        rw [book_frz hv2 hl2]
        exact refBook (by rw [hl2]; omega)
      refine ab_seq_k fun K28 h28 => ?_
      refine ab_seq_k fun K29 h29 => ?_
      simp [w17, w21, sz, sz']
      refine callK_of C1 ?_
      simp
      refine h29 _ _ _ ?_
      clear h29 K29
      by_cases hcm : checkBook P (JD ++ [((x : Int), y, u)]) = 0
      case neg =>
        refine ab_cond_of rfl (fun _ => ?_) (fun h => by simp [hcm] at h)
        refine ab_seq_k fun K30 h30 => ?_
        simp
        refine callK_of (wk _) ?_
        simp
        refine h30 _ _ _ ?_
        clear h30 K30
        simp
        exact fin_of 1 (by simp [rs11])
      refine ab_cond_of rfl (fun h => by simp [hcm] at h) (fun _ => ?_)
      simp
      refine h28 _ _ _ ?_
      clear h28 K28
      obtain ⟨-, -, hDm, -⟩ := book_ok hcm
      obtain ⟨d1, d2⟩ := top_debt (by omega) hP10 hDm
      have t4 := topP_b (N := P) (D := JD ++ [((x : Int), y, u)])
      have C2 : FSpec Try.prog 26 [.agg [.i .i64 P, v2]] σ' (.tup [.i .i64 ((P : Int) - topP P (JD ++ [((x : Int), y, u)])), .i .i64 0]) σ' := by
        refine FSpec.frozen 3 ?_ rfl
        rw [book_frz hv2 hl2]
        have := fewest26 (n := (P : Int)) (D := JD ++ [((x : Int), y, u)]) (f := (D.length + E.length + 1 == 0)) (by rw [hl2]; omega)
        rw [fewP_ok hcm] at this
        exact this
      generalize topP P (JD ++ [((x : Int), y, u)]) = T4 at *
      generalize topP P JD = T3 at *
      refine ab_seq_k fun K31 h31 => ?_
      simp [w17, w21, sz, sz']
      refine callK_of (C2) ?_
      simp [w17, w21, sz, sz']
      refine h31 _ _ _ ?_
      clear h31 K31
      refine ab_seq_k fun K32 h32 => ?_
      have q1 : (P : Int) - T4 ≤ (P : Int) - T3 + 1 := by omega
      have q2 : (P : Int) - T3 - 1 ≤ (P : Int) - T4 := by omega
      simp [wrap64 (x := (P : Int) - T3 + 1) (by omega) (by omega), wrap64 (x := (P : Int) - T3 - 1) (by omega) (by omega), q1, q2]
      refine callK_of (wk _) ?_
      simp
      refine h32 _ _ _ ?_
      simp
      exact fin_of 1 (by simp [rs11])
    clear h27
    have G48 := fun (a b c : Int) σ => FSpec.frame (σ := σ) (debt48 (a := a) (b := b) (c := c)) (by simp) (by simp)
    have hJs : lsD JD ++ [V.i IntKind.i64 (x : Int), V.i IntKind.i64 y, V.i IntKind.i64 u] = lsD (JD ++ [((x : Int), y, u)]) := by rw [lsD_append]; rfl
    have hσ2 : 2 ≤ σ.length := by omega
    simp only [ab_alt_two, ab_alt_one]
    refine ⟨?_, ?_, ?_⟩
    · simp [abDs_consU, drU, recheck_cons, recheck_nil, rcK, IS.dst, sx, sx', wrap64 (x := su) (by omega) (by omega), wrap64 (x := su.tmod 1000000) (by omega) (by omega), hu, wrap64 (x := u) (by omega) (by omega)]
      refine appSrc hv (appGn (k := 2) hσ2 (by omega) (by simp [hJl]) ?_)
      intro v1 σ1 g1 gg1
      have a1 := gg1.get (j := ix) (by simp [idOf]) sx
      have hσ12 : 2 ≤ σ1.length := by have := gg1.len; omega
      obtain ⟨a1l, a1'⟩ := List.getElem?_eq_some_iff.1 a1
      simp [abDs_consU, drU, recheck_cons, recheck_nil, rcK, IS.dst, a1, a1', wrap64 (x := su) (by omega) (by omega), wrap64 (x := su.tmod 1000000) (by omega) (by omega), hu, wrap64 (x := u) (by omega) (by omega)]
      refine callK_of (G48 _ _ _ _) ?_
      simp [abDs_consU, drU, recheck_cons, recheck_nil, rcK, IS.dst]
      refine appG g1 hσ12 (by omega) (by simp) rfl ?_
      intro v2 σ2 g2 gg2
      rw [hJs] at g2
      have a2 := gg2.get (j := ix) (fun h => by
        have h1 := (g1.id_ge h).1
        rcases gg1.id with e | ⟨e1, e2⟩
        · rw [e] at h; cases h
        · rw [e2] at h; have h4 := Option.some.inj h; omega) a1
      obtain ⟨a2l, a2'⟩ := List.getElem?_eq_some_iff.1 a2
      simp [abDs_consU, drU, recheck_cons, recheck_nil, rcK, IS.dst, a2, a2']
      refine callK_of (book49G g2) ?_
      have a3 := app_get (g := [O.row 0 [V.i IntKind.i64 0, V.ss [] 0 true]]) a2
      obtain ⟨a3l, a3'⟩ := List.getElem?_eq_some_iff.1 a3
      simp [abDs_consU, drU, recheck_cons, recheck_nil, rcK, IS.dst, a3, a3', g2.one]
      refine ⟨callK_of (book49G g2.app) (by simp [rcK]), ?_⟩
      refine hK2 σ2.length 2 v2 _ _ rfl rfl (by simp) g2.app
    · simp [abDs_consU, drU, recheck_cons, recheck_nil, rcK, IS.dst, sx, sx', wrap64 (x := su) (by omega) (by omega), wrap64 (x := su.tmod 1000000) (by omega) (by omega), hu, wrap64 (x := u) (by omega) (by omega)]
      refine appSrc hv (appGn (k := 2) hσ2 (by omega) (by simp [hJl]) ?_)
      intro v1 σ1 g1 gg1
      have a1 := gg1.get (j := ix) (by simp [idOf]) sx
      have hσ12 : 2 ≤ σ1.length := by have := gg1.len; omega
      obtain ⟨a1l, a1'⟩ := List.getElem?_eq_some_iff.1 a1
      simp [abDs_consU, drU, recheck_cons, recheck_nil, rcK, IS.dst, a1, a1', wrap64 (x := su) (by omega) (by omega), wrap64 (x := su.tmod 1000000) (by omega) (by omega), hu, wrap64 (x := u) (by omega) (by omega)]
      refine callK_of (G48 _ _ _ _) ?_
      have a2 := app_get (g := [O.row 0 [V.i IntKind.i64 0, V.ss [] 0 true]]) a1
      obtain ⟨a2l, a2'⟩ := List.getElem?_eq_some_iff.1 a2
      have b2 : (σ1 ++ [O.row 0 [V.i IntKind.i64 0, V.ss [] 0 true]])[σ1.length]? = some (O.row 0 [V.i IntKind.i64 0, V.ss [] 0 true]) := by simp
      simp [abDs_consU, drU, recheck_cons, recheck_nil, rcK, IS.dst, a2, a2', wrap64 (x := su) (by omega) (by omega), wrap64 (x := su.tmod 1000000) (by omega) (by omega), hu, wrap64 (x := u) (by omega) (by omega)]
      refine ⟨callK_of (G48 _ _ _ _) (by simp [rcK]), ?_⟩
      have hidv : idOf v1 ≠ some σ1.length := fun h => by have := (g1.id_ge h).2; omega
      have hidx : idOf v1 ≠ some ix := fun h => by
        have h1 := (g1.id_ge h).1
        rcases gg1.id with e | ⟨e1, e2⟩
        · rw [e] at h; cases h
        · rw [e2] at h; have h4 := Option.some.inj h; omega
      refine appG (k := 2) (g1.app (g := [O.row 0 [V.i IntKind.i64 0, V.ss [] 0 true]])) (by simp; omega) (by omega) (by simp) rfl ?_
      intro v2 σ2 g2 gg2
      rw [hJs] at g2
      have c2 := gg2.get hidx a2
      have d2 := gg2.get hidv b2
      obtain ⟨c2l, c2'⟩ := List.getElem?_eq_some_iff.1 c2
      obtain ⟨d2l, d2'⟩ := List.getElem?_eq_some_iff.1 d2
      simp [abDs_consU, drU, recheck_cons, recheck_nil, rcK, IS.dst, c2, c2', d2, d2']
      refine callK_of (book49G g2) ?_
      have hz : idOf v2 ≠ some σ1.length := fun h => by
        rcases gg2.id with e | ⟨e1, e2⟩
        · rw [e] at h; exact hidv h
        · rw [e2] at h; have h4 := Option.some.inj h; simp at h4
      simp [abDs_consU, drU, recheck_cons, recheck_nil, rcK, IS.dst, c2, c2', d2, d2', g2.one]
      exact hK2 σ1.length 2 v2 _ _ rfl rfl (List.getElem?_set_self d2l) (g2.set hz)
    · have a2 := app_get (g := [O.row 0 [V.i IntKind.i64 0, V.ss [] 0 true]]) sx
      obtain ⟨a2l, a2'⟩ := List.getElem?_eq_some_iff.1 a2
      have b2 : (σ ++ [O.row 0 [V.i IntKind.i64 0, V.ss [] 0 true]])[σ.length]? = some (O.row 0 [V.i IntKind.i64 0, V.ss [] 0 true]) := by simp
      simp [abDs_consU, drU, recheck_cons, recheck_nil, rcK, IS.dst, sx, sx', a2, a2', hv.one, wrap64 (x := su) (by omega) (by omega), wrap64 (x := su.tmod 1000000) (by omega) (by omega), hu, wrap64 (x := u) (by omega) (by omega)]
      refine appSrc hv.app (appGn (k := σ.length + 1) (by simp) (by omega) (by simp [hJl]) ?_)
      intro v1 σ1 g1 gg1
      have a1 := gg1.get (j := ix) (by simp [idOf]) a2
      have b1 := gg1.get (j := σ.length) (by simp [idOf]) b2
      have hσ12 : σ.length + 1 ≤ σ1.length := by have := gg1.len; simp at this; omega
      obtain ⟨a1l, a1'⟩ := List.getElem?_eq_some_iff.1 a1
      obtain ⟨b1l, b1'⟩ := List.getElem?_eq_some_iff.1 b1
      simp [abDs_consU, drU, recheck_cons, recheck_nil, rcK, IS.dst, a1, a1', b1, b1', wrap64 (x := su) (by omega) (by omega), wrap64 (x := su.tmod 1000000) (by omega) (by omega), hu, wrap64 (x := u) (by omega) (by omega)]
      refine callK_of (G48 _ _ _ _) ?_
      simp [abDs_consU, drU, recheck_cons, recheck_nil, rcK, IS.dst, a1, a1', b1, b1']
      have hidv : idOf v1 ≠ some σ.length := fun h => by have := (g1.id_ge h).1; omega
      have hidx : idOf v1 ≠ some ix := fun h => by have := (g1.id_ge h).1; omega
      refine appG g1 hσ12 (by omega) (by simp) rfl ?_
      intro v2 σ2 g2 gg2
      rw [hJs] at g2
      have c2 := gg2.get hidx a1
      have d2 := gg2.get hidv b1
      obtain ⟨c2l, c2'⟩ := List.getElem?_eq_some_iff.1 c2
      obtain ⟨d2l, d2'⟩ := List.getElem?_eq_some_iff.1 d2
      simp [abDs_consU, drU, recheck_cons, recheck_nil, rcK, IS.dst, c2, c2', d2, d2']
      refine callK_of (book49G g2) ?_
      have hz : idOf v2 ≠ some σ.length := fun h => by have := (g2.id_ge h).1; omega
      simp [abDs_consU, drU, recheck_cons, recheck_nil, rcK, IS.dst, c2, c2', d2, d2', g2.one]
      exact hK2 σ.length (σ.length + 1) v2 _ _ rfl rfl (List.getElem?_set_self d2l) (g2.set hz)
  clear h5
  have hbN : ∀ i : Nat, i < D.length → True := fun _ _ => trivial
  simp only [ab_alt_two, ab_alt_one]
  have hl40 : D.length ≤ 40 := hlen
  by_cases hD0 : D = []
  · subst hD0
    refine ⟨?_, ?_⟩
    · simp [abDs_consU, drU, recheck_cons, recheck_nil, rcK, IS.dst, get0_bookC, get1_bookC, wP, slD, lsD]
      refine callK_of (book49G (k := 3) (es := 3) .nil) ?_
      simp [abDs_consU, drU, recheck_cons, recheck_nil, rcK, IS.dst, get0_bookC, get1_bookC, wP]
      refine ⟨callK_of (book49G (k := 3) (es := 3) .nil) (by simp [rcK]), ?_⟩
      exact hK 2 (.ss [] 0 true) _ _ (by omega) rfl rfl rfl rfl rfl rfl rfl rfl rfl .nil (by simp [idOf])
    · simp [abDs_consU, drU, recheck_cons, recheck_nil, rcK, IS.dst, get0_bookC, get1_bookC, wP, slD, lsD]
      refine callK_of (book49G (k := 3) (es := 3) .nil) ?_
      simp [abDs_consU, drU, recheck_cons, recheck_nil, rcK, IS.dst, get0_bookC, get1_bookC, wP]
      exact hK 2 (.ss [] 0 true) _ _ (by omega) rfl rfl rfl rfl rfl rfl rfl rfl rfl .nil (by simp [idOf])
  have hDl : D.length ≠ 0 := fun h => hD0 (List.length_eq_zero_iff.1 h)
  refine ⟨?_, ?_⟩
  · have hg : Gr 2 3 [O.row 0 (bookC N D f), O.row 0 (bookC M E g), O.row 0 (lsD D)] (.s 2 0 0 D.length 3) D.length (lsD D) := ⟨by simp, .inr ⟨hDl, 2, 0, by omega, rfl, rfl⟩⟩
    simp [abDs_consU, drU, recheck_cons, recheck_nil, rcK, IS.dst, get0_bookC, get1_bookC, wP, hD0]
    refine ⟨by omega, ?_⟩
    refine callK_of (book49G hg) ?_
    simp [abDs_consU, drU, recheck_cons, recheck_nil, rcK, IS.dst, get0_bookC, get1_bookC, wP]
    have hg2 := hg.app (g := [O.row 0 [V.i .i64 0, .ss [] 0 true]])
    simp only [List.cons_append, List.nil_append] at hg2
    refine ⟨callK_of (book49G hg2) (by simp [rcK]), ?_⟩
    refine hK 3 (.s 2 0 0 D.length 3) _ _ (by omega) rfl rfl rfl rfl rfl rfl rfl rfl rfl ?_ (by simp [idOf])
    exact ⟨by simp, .inr ⟨hDl, 2, 0, by omega, rfl, rfl⟩⟩
  · have hg : Gr 2 3 [O.row 0 (bookC N D f), O.row 0 (bookC M E g), O.row 0 [V.i .i64 0, .ss [] 0 true], O.row 0 (lsD D)] (.s 3 0 0 D.length 3) D.length (lsD D) := ⟨by simp, .inr ⟨hDl, 3, 0, by omega, rfl, rfl⟩⟩
    simp [abDs_consU, drU, recheck_cons, recheck_nil, rcK, IS.dst, get0_bookC, get1_bookC, wP, hD0]
    refine ⟨by omega, ?_⟩
    refine callK_of (book49G hg) ?_
    simp [abDs_consU, drU, recheck_cons, recheck_nil, rcK, IS.dst, get0_bookC, get1_bookC, wP]
    refine hK 2 (.s 3 0 0 D.length 3) _ _ (by omega) rfl rfl rfl rfl rfl rfl rfl rfl rfl ?_ (by simp [idOf])
    exact ⟨by simp, .inr ⟨hDl, 3, 0, by omega, rfl, rfl⟩⟩
end Go.Ab
