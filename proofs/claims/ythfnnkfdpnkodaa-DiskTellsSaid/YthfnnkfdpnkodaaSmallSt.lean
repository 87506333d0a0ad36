/- The small example of the laws: its states. -/
import Derived.Test.YthfnnkfdpnkodaaFit
namespace Go.Proofs.Ythfnnkfdpnkodaa
open Go.RowKit

def sm0 : DSt := st0
theorem smf0 : Fit sm0 0 := fit0
def sm1 : DSt := (sm0.doWrite 1 0 [104, 101, 108, 108, 111]).2
theorem smf1 : Fit sm1 5 := smf0.doWrite 1 0 [104, 101, 108, 108, 111]
def sm2 : DSt := (sm1.flush 1).2
theorem smf2 : Fit sm2 5 := smf1.flush 1
def sm3 : DSt := (sm2.doWrite 1 5 [121]).2
theorem smf3 : Fit sm3 6 := smf2.doWrite 1 5 [121]
def sm4 : DSt := (sm3.doWrite 1 8 [122]).2
theorem smf4 : Fit sm4 7 := smf3.doWrite 1 8 [122]
def sm5 : DSt := sm4.doCrash [1]
theorem smf5 : Fit sm5 7 := smf4.doCrash [1]
def sm6 : DSt := sm5.start
theorem smf6 : Fit sm6 7 := smf5.start
def sm7 : DSt := sm6.lose 1
theorem smf7 : Fit sm7 7 := smf6.lose (by decide)
def sm8 : DSt := (sm7.flush 1).2
theorem smf8 : Fit sm8 7 := smf7.flush 1
def sm9 : DSt := (sm8.doWrite 2 0 [120]).2
theorem smf9 : Fit sm9 8 := smf8.doWrite 2 0 [120]
def sm10 : DSt := (sm9.turn 1 2).2
theorem smf10 : Fit sm10 8 := smf9.turn 1 2
def sm11 : DSt := (sm10.flush 2).2
theorem smf11 : Fit sm11 8 := smf10.flush 2
def sm12 : DSt := (sm11.turn 1 2).2
theorem smf12 : Fit sm12 8 := smf11.turn 1 2
def sm13 : DSt := (sm12.doWrite 3 62 [97, 98, 99, 100]).2
theorem smf13 : Fit sm13 12 := smf12.doWrite 3 62 [97, 98, 99, 100]
def sm14 : DSt := sm13.doCrash [0, 1]
theorem smf14 : Fit sm14 12 := smf13.doCrash [0, 1]
def sm15 : DSt := sm14.start
theorem smf15 : Fit sm15 12 := smf14.start
def sm16 : DSt := (sm15.doWrite 12 0 []).2
theorem smf16 : Fit sm16 12 := smf15.doWrite 12 0 []
def sm17 : DSt := (sm16.doWrite 0 (-1) []).2
theorem smf17 : Fit sm17 12 := smf16.doWrite 0 (-1) []
def sm18 : DSt := (sm17.cut 1 2).2
theorem smf18 : Fit sm18 12 := smf17.cut 1 2
theorem sr1 : (sm0.doWrite 1 0 [104, 101, 108, 108, 111]).1 = 0 := by kernel_rfl
theorem sr2 : (sm1.flush 1).1 = 0 := by kernel_rfl
theorem sr3 : (sm2.doWrite 1 5 [121]).1 = 0 := by kernel_rfl
theorem sr4 : (sm3.doWrite 1 8 [122]).1 = 0 := by kernel_rfl
theorem sx5 : sm5.read 1 = ([], 8) := by kernel_rfl
theorem sd5 : sm5.down = true := by kernel_rfl
theorem sx6 : sm6.read 1 = ([104, 101, 108, 108, 111, 121], 0) := by kernel_rfl
theorem sr8 : (sm7.flush 1).1 = 9 := by kernel_rfl
theorem sr9 : (sm8.doWrite 2 0 [120]).1 = 0 := by kernel_rfl
theorem sr10 : (sm9.turn 1 2).1 = 7 := by kernel_rfl
theorem sr11 : (sm10.flush 2).1 = 0 := by kernel_rfl
theorem sr12 : (sm11.turn 1 2).1 = 0 := by kernel_rfl
theorem sx12 : sm12.read 1 = ([120], 0) := by kernel_rfl
theorem sr13 : (sm12.doWrite 3 62 [97, 98, 99, 100]).1 = 0 := by kernel_rfl
theorem sx15 : sm15.read 3 = (List.replicate 64 0 ++ [99, 100], 0) := by kernel_rfl
theorem sz15 : sm15.size 2 = 0 := by kernel_rfl
theorem sr16 : (sm15.doWrite 12 0 []).1 = 1 := by kernel_rfl
theorem sr17 : (sm16.doWrite 0 (-1) []).1 = 1 := by kernel_rfl
theorem sr18 : (sm17.cut 1 2).1 = 1 := by kernel_rfl
end Go.Proofs.Ythfnnkfdpnkodaa
