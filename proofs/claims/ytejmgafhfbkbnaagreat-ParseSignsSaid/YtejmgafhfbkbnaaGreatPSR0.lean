/-
  ParseSigns: the checks with sign 0 on the left, computed.
-/
import Derived.Test.YtejmgafhfbkbnaaGreatM6
namespace Go.Proofs.YtejmgafhfbkbnaaGreat
namespace G
open Go B Go.Proofs
theorem chk0_0 (i k : Int) : chk i k 0 0 = true := by kernel_rfl
theorem chk0_1 (i k : Int) : chk i k 0 1 = true := by kernel_rfl
theorem chk0_2 (i k : Int) : chk i k 0 2 = true := by kernel_rfl
theorem chk0_3 (i k : Int) : chk i k 0 3 = true := by kernel_rfl
theorem chk0_4 (i k : Int) : chk i k 0 4 = true := by kernel_rfl
theorem chk0_5 (i k : Int) : chk i k 0 5 = true := by kernel_rfl
theorem chk0_6 (i k : Int) : chk i k 0 6 = true := by kernel_rfl
theorem chk0_7 (i k : Int) : chk i k 0 7 = true := by kernel_rfl
theorem chk0_8 (i k : Int) : chk i k 0 8 = true := by kernel_rfl
theorem chk0_9 (i k : Int) : chk i k 0 9 = true := by kernel_rfl
theorem chk0_10 (i k : Int) : chk i k 0 10 = true := by kernel_rfl
theorem chk0_11 (i k : Int) : chk i k 0 11 = true := by kernel_rfl
theorem chk0_12 (i k : Int) : chk i k 0 12 = true := by kernel_rfl
theorem chk0_13 (i k : Int) : chk i k 0 13 = true := by kernel_rfl
theorem chk0_14 (i k : Int) : chk i k 0 14 = true := by kernel_rfl
theorem chk0_15 (i k : Int) : chk i k 0 15 = true := by kernel_rfl
theorem chk0_16 (i k : Int) : chk i k 0 16 = true := by kernel_rfl
theorem chk0_17 (i k : Int) : chk i k 0 17 = true := by kernel_rfl
theorem chk0 (i k : Int) (b : Nat) (h : b < 18) : chk i k 0 b = true := by
  have hc : b = 0 ∨ b = 1 ∨ b = 2 ∨ b = 3 ∨ b = 4 ∨ b = 5 ∨ b = 6 ∨ b = 7 ∨ b = 8 ∨ b = 9 ∨ b = 10 ∨ b = 11 ∨ b = 12 ∨ b = 13 ∨ b = 14 ∨ b = 15 ∨ b = 16 ∨ b = 17 := by omega
  rcases hc with rfl | rfl | rfl | rfl | rfl | rfl | rfl | rfl | rfl | rfl | rfl | rfl | rfl | rfl | rfl | rfl | rfl | rfl
  · exact chk0_0 i k
  · exact chk0_1 i k
  · exact chk0_2 i k
  · exact chk0_3 i k
  · exact chk0_4 i k
  · exact chk0_5 i k
  · exact chk0_6 i k
  · exact chk0_7 i k
  · exact chk0_8 i k
  · exact chk0_9 i k
  · exact chk0_10 i k
  · exact chk0_11 i k
  · exact chk0_12 i k
  · exact chk0_13 i k
  · exact chk0_14 i k
  · exact chk0_15 i k
  · exact chk0_16 i k
  · exact chk0_17 i k
end G
end Go.Proofs.YtejmgafhfbkbnaaGreat
