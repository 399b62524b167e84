/- MADE BY PROGRAM (mkKP.py, of my own): control forms of functions that call what is known by a relation. -/
import Derived.Test.YtgndegccjhdmmaaGreatAbT
set_option linter.unusedVariables false
set_option maxRecDepth 100000
namespace Go.Ab
open Go Go.Proofs

def q84_0 : IC := (.block 1 (.seq (.reg [.op (some 8) none (.load1 (.t 4)), .op (some 9) none (.bin .neq (.t 8) (.c (.i .u16 0))), .op (some 10) none (.mov (.t 9)), .op (some 11) (some (10, true)) (.load1 (.t 1)), .op (some 12) (some (10, true)) (.load1 (.t 4)), .call (some 13) (some (10, true)) 89 [(.t 11), (.t 12)], .op (some 14) none (.pick (.t 10) (.t 13) (.c (.b false))), .op (some 15) none (.mov (.t 14)), .op (some 16) (some (15, true)) (.load1 (.t 3)), .op (some 17) (some (15, true)) (.mkf (.func 111) [] [(.t 4)]), .call (some 18) (some (15, true)) 110 [(.t 16), (.t 17)], .op (some 19) (some (15, true)) (.not (.t 18)), .op (some 20) none (.pick (.t 15) (.t 19) (.c (.b false)))] (some [3, 4, 20])) (.cond (.t 20) (.reg [.op (some 21) none (.load1 (.t 3)), .op (some 22) none (.load1 (.t 4)), .op (some 23) none (.bsl true 1 1 [(.i .u16 0)] [(0, 1, (.t 22))]), .op (some 24) none (.app 1 2 (.t 21) (.t 23)), .op none none (.store1 (.t 3) (.t 24))] (some [])) .skip)))
def q84 : IC := (.seq (.reg [.op (some 1) none (.box (.t 0)), .op (some 2) none (.mov (.c (.ss [] 0 true)))] (some [1])) (.seq (.reg [.op (some 3) none (.alloc [(.ss [] 0 true)])] (some [1, 3])) (.seq (.seq (.reg [.op (some 5) none (.load1 (.t 1)), .call (some 6) none 91 [(.t 5)]] (some [1, 3, 6])) (.block 0 (.rfn (.t 6) [7] (.reg [.op (some 4) none (.alloc [(.i .u16 0)]), .op none none (.store1 (.t 4) (.t 7))] (some [1, 3, 4])) q84_0))) (.seq (.reg [.op (some 25) none (.load1 (.t 3)), .callr (some 26) none 113 [(.t 25), (.fn 112)], .op (some 2) none (.mov (.t 26))] (some [2])) .ret))))
theorem qf84 : Fn_ Tryz.prog 84 Tryz.f84 [2113] q84 rs84 := ⟨by kernel_rfl, by decide, by kernel_rfl, by kernel_rfl⟩
end Go.Ab
