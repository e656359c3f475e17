/-
  ParseSigns: the checks with sign 13 on the left, computed.
-/
import Derived.Test.YtejmgafhfbkbnaaGreatM6
namespace Go.Proofs.YtejmgafhfbkbnaaGreat
namespace G
open Go B Go.Proofs
theorem chk13_0 (i k : Int) : chk i k 13 0 = true := by kernel_rfl
theorem chk13_1 (i k : Int) : chk i k 13 1 = true := by kernel_rfl
theorem chk13_2 (i k : Int) : chk i k 13 2 = true := by kernel_rfl
theorem chk13_3 (i k : Int) : chk i k 13 3 = true := by kernel_rfl
theorem chk13_4 (i k : Int) : chk i k 13 4 = true := by kernel_rfl
theorem chk13_5 (i k : Int) : chk i k 13 5 = true := by kernel_rfl
theorem chk13_6 (i k : Int) : chk i k 13 6 = true := by kernel_rfl
theorem chk13_7 (i k : Int) : chk i k 13 7 = true := by kernel_rfl
theorem chk13_8 (i k : Int) : chk i k 13 8 = true := by kernel_rfl
theorem chk13_9 (i k : Int) : chk i k 13 9 = true := by kernel_rfl
theorem chk13_10 (i k : Int) : chk i k 13 10 = true := by kernel_rfl
theorem chk13_11 (i k : Int) : chk i k 13 11 = true := by kernel_rfl
theorem chk13_12 (i k : Int) : chk i k 13 12 = true := by kernel_rfl
theorem chk13_13 (i k : Int) : chk i k 13 13 = true := by kernel_rfl
theorem chk13_14 (i k : Int) : chk i k 13 14 = true := by kernel_rfl
theorem chk13_15 (i k : Int) : chk i k 13 15 = true := by kernel_rfl
theorem chk13_16 (i k : Int) : chk i k 13 16 = true := by kernel_rfl
theorem chk13_17 (i k : Int) : chk i k 13 17 = true := by kernel_rfl
theorem chk13 (i k : Int) (b : Nat) (h : b < 18) : chk i k 13 b = true := by
  have hc : b = 0 ∨ b = 1 ∨ b = 2 ∨ b = 3 ∨ b = 4 ∨ b = 5 ∨ b = 6 ∨ b = 7 ∨ b = 8 ∨ b = 9 ∨ b = 10 ∨ b = 11 ∨ b = 12 ∨ b = 13 ∨ b = 14 ∨ b = 15 ∨ b = 16 ∨ b = 17 := by omega
  rcases hc with rfl | rfl | rfl | rfl | rfl | rfl | rfl | rfl | rfl | rfl | rfl | rfl | rfl | rfl | rfl | rfl | rfl | rfl
  · exact chk13_0 i k
  · exact chk13_1 i k
  · exact chk13_2 i k
  · exact chk13_3 i k
  · exact chk13_4 i k
  · exact chk13_5 i k
  · exact chk13_6 i k
  · exact chk13_7 i k
  · exact chk13_8 i k
  · exact chk13_9 i k
  · exact chk13_10 i k
  · exact chk13_11 i k
  · exact chk13_12 i k
  · exact chk13_13 i k
  · exact chk13_14 i k
  · exact chk13_15 i k
  · exact chk13_16 i k
  · exact chk13_17 i k
end G
end Go.Proofs.YtejmgafhfbkbnaaGreat
