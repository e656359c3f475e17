/-
  ParseSigns: the checks with sign 1 on the left, computed.
-/
import Derived.Test.YtejmgafhfbkbnaaGreatM6
namespace Go.Proofs.YtejmgafhfbkbnaaGreat
namespace G
open Go B Go.Proofs
theorem chk1_0 (i k : Int) : chk i k 1 0 = true := by kernel_rfl
theorem chk1_1 (i k : Int) : chk i k 1 1 = true := by kernel_rfl
theorem chk1_2 (i k : Int) : chk i k 1 2 = true := by kernel_rfl
theorem chk1_3 (i k : Int) : chk i k 1 3 = true := by kernel_rfl
theorem chk1_4 (i k : Int) : chk i k 1 4 = true := by kernel_rfl
theorem chk1_5 (i k : Int) : chk i k 1 5 = true := by kernel_rfl
theorem chk1_6 (i k : Int) : chk i k 1 6 = true := by kernel_rfl
theorem chk1_7 (i k : Int) : chk i k 1 7 = true := by kernel_rfl
theorem chk1_8 (i k : Int) : chk i k 1 8 = true := by kernel_rfl
theorem chk1_9 (i k : Int) : chk i k 1 9 = true := by kernel_rfl
theorem chk1_10 (i k : Int) : chk i k 1 10 = true := by kernel_rfl
theorem chk1_11 (i k : Int) : chk i k 1 11 = true := by kernel_rfl
theorem chk1_12 (i k : Int) : chk i k 1 12 = true := by kernel_rfl
theorem chk1_13 (i k : Int) : chk i k 1 13 = true := by kernel_rfl
theorem chk1_14 (i k : Int) : chk i k 1 14 = true := by kernel_rfl
theorem chk1_15 (i k : Int) : chk i k 1 15 = true := by kernel_rfl
theorem chk1_16 (i k : Int) : chk i k 1 16 = true := by kernel_rfl
theorem chk1_17 (i k : Int) : chk i k 1 17 = true := by kernel_rfl
theorem chk1 (i k : Int) (b : Nat) (h : b < 18) : chk i k 1 b = true := by
  have hc : b = 0 ∨ b = 1 ∨ b = 2 ∨ b = 3 ∨ b = 4 ∨ b = 5 ∨ b = 6 ∨ b = 7 ∨ b = 8 ∨ b = 9 ∨ b = 10 ∨ b = 11 ∨ b = 12 ∨ b = 13 ∨ b = 14 ∨ b = 15 ∨ b = 16 ∨ b = 17 := by omega
  rcases hc with rfl | rfl | rfl | rfl | rfl | rfl | rfl | rfl | rfl | rfl | rfl | rfl | rfl | rfl | rfl | rfl | rfl | rfl
  · exact chk1_0 i k
  · exact chk1_1 i k
  · exact chk1_2 i k
  · exact chk1_3 i k
  · exact chk1_4 i k
  · exact chk1_5 i k
  · exact chk1_6 i k
  · exact chk1_7 i k
  · exact chk1_8 i k
  · exact chk1_9 i k
  · exact chk1_10 i k
  · exact chk1_11 i k
  · exact chk1_12 i k
  · exact chk1_13 i k
  · exact chk1_14 i k
  · exact chk1_15 i k
  · exact chk1_16 i k
  · exact chk1_17 i k
end G
end Go.Proofs.YtejmgafhfbkbnaaGreat
