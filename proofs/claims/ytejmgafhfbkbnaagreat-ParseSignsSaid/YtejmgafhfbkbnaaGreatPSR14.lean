/-
  ParseSigns: the checks with sign 14 on the left, computed.
-/
import Derived.Test.YtejmgafhfbkbnaaGreatM6
namespace Go.Proofs.YtejmgafhfbkbnaaGreat
namespace G
open Go B Go.Proofs
theorem chk14_0 (i k : Int) : chk i k 14 0 = true := by kernel_rfl
theorem chk14_1 (i k : Int) : chk i k 14 1 = true := by kernel_rfl
theorem chk14_2 (i k : Int) : chk i k 14 2 = true := by kernel_rfl
theorem chk14_3 (i k : Int) : chk i k 14 3 = true := by kernel_rfl
theorem chk14_4 (i k : Int) : chk i k 14 4 = true := by kernel_rfl
theorem chk14_5 (i k : Int) : chk i k 14 5 = true := by kernel_rfl
theorem chk14_6 (i k : Int) : chk i k 14 6 = true := by kernel_rfl
theorem chk14_7 (i k : Int) : chk i k 14 7 = true := by kernel_rfl
theorem chk14_8 (i k : Int) : chk i k 14 8 = true := by kernel_rfl
theorem chk14_9 (i k : Int) : chk i k 14 9 = true := by kernel_rfl
theorem chk14_10 (i k : Int) : chk i k 14 10 = true := by kernel_rfl
theorem chk14_11 (i k : Int) : chk i k 14 11 = true := by kernel_rfl
theorem chk14_12 (i k : Int) : chk i k 14 12 = true := by kernel_rfl
theorem chk14_13 (i k : Int) : chk i k 14 13 = true := by kernel_rfl
theorem chk14_14 (i k : Int) : chk i k 14 14 = true := by kernel_rfl
theorem chk14_15 (i k : Int) : chk i k 14 15 = true := by kernel_rfl
theorem chk14_16 (i k : Int) : chk i k 14 16 = true := by kernel_rfl
theorem chk14_17 (i k : Int) : chk i k 14 17 = true := by kernel_rfl
theorem chk14 (i k : Int) (b : Nat) (h : b < 18) : chk i k 14 b = true := by
  have hc : b = 0 ∨ b = 1 ∨ b = 2 ∨ b = 3 ∨ b = 4 ∨ b = 5 ∨ b = 6 ∨ b = 7 ∨ b = 8 ∨ b = 9 ∨ b = 10 ∨ b = 11 ∨ b = 12 ∨ b = 13 ∨ b = 14 ∨ b = 15 ∨ b = 16 ∨ b = 17 := by omega
  rcases hc with rfl | rfl | rfl | rfl | rfl | rfl | rfl | rfl | rfl | rfl | rfl | rfl | rfl | rfl | rfl | rfl | rfl | rfl
  · exact chk14_0 i k
  · exact chk14_1 i k
  · exact chk14_2 i k
  · exact chk14_3 i k
  · exact chk14_4 i k
  · exact chk14_5 i k
  · exact chk14_6 i k
  · exact chk14_7 i k
  · exact chk14_8 i k
  · exact chk14_9 i k
  · exact chk14_10 i k
  · exact chk14_11 i k
  · exact chk14_12 i k
  · exact chk14_13 i k
  · exact chk14_14 i k
  · exact chk14_15 i k
  · exact chk14_16 i k
  · exact chk14_17 i k
end G
end Go.Proofs.YtejmgafhfbkbnaaGreat
