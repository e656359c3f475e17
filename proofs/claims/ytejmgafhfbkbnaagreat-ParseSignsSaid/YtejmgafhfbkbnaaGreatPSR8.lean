/-
  ParseSigns: the checks with sign 8 on the left, computed.
-/
import Derived.Test.YtejmgafhfbkbnaaGreatM6
namespace Go.Proofs.YtejmgafhfbkbnaaGreat
namespace G
open Go B Go.Proofs
theorem chk8_0 (i k : Int) : chk i k 8 0 = true := by kernel_rfl
theorem chk8_1 (i k : Int) : chk i k 8 1 = true := by kernel_rfl
theorem chk8_2 (i k : Int) : chk i k 8 2 = true := by kernel_rfl
theorem chk8_3 (i k : Int) : chk i k 8 3 = true := by kernel_rfl
theorem chk8_4 (i k : Int) : chk i k 8 4 = true := by kernel_rfl
theorem chk8_5 (i k : Int) : chk i k 8 5 = true := by kernel_rfl
theorem chk8_6 (i k : Int) : chk i k 8 6 = true := by kernel_rfl
theorem chk8_7 (i k : Int) : chk i k 8 7 = true := by kernel_rfl
theorem chk8_8 (i k : Int) : chk i k 8 8 = true := by kernel_rfl
theorem chk8_9 (i k : Int) : chk i k 8 9 = true := by kernel_rfl
theorem chk8_10 (i k : Int) : chk i k 8 10 = true := by kernel_rfl
theorem chk8_11 (i k : Int) : chk i k 8 11 = true := by kernel_rfl
theorem chk8_12 (i k : Int) : chk i k 8 12 = true := by kernel_rfl
theorem chk8_13 (i k : Int) : chk i k 8 13 = true := by kernel_rfl
theorem chk8_14 (i k : Int) : chk i k 8 14 = true := by kernel_rfl
theorem chk8_15 (i k : Int) : chk i k 8 15 = true := by kernel_rfl
theorem chk8_16 (i k : Int) : chk i k 8 16 = true := by kernel_rfl
theorem chk8_17 (i k : Int) : chk i k 8 17 = true := by kernel_rfl
theorem chk8 (i k : Int) (b : Nat) (h : b < 18) : chk i k 8 b = true := by
  have hc : b = 0 ∨ b = 1 ∨ b = 2 ∨ b = 3 ∨ b = 4 ∨ b = 5 ∨ b = 6 ∨ b = 7 ∨ b = 8 ∨ b = 9 ∨ b = 10 ∨ b = 11 ∨ b = 12 ∨ b = 13 ∨ b = 14 ∨ b = 15 ∨ b = 16 ∨ b = 17 := by omega
  rcases hc with rfl | rfl | rfl | rfl | rfl | rfl | rfl | rfl | rfl | rfl | rfl | rfl | rfl | rfl | rfl | rfl | rfl | rfl
  · exact chk8_0 i k
  · exact chk8_1 i k
  · exact chk8_2 i k
  · exact chk8_3 i k
  · exact chk8_4 i k
  · exact chk8_5 i k
  · exact chk8_6 i k
  · exact chk8_7 i k
  · exact chk8_8 i k
  · exact chk8_9 i k
  · exact chk8_10 i k
  · exact chk8_11 i k
  · exact chk8_12 i k
  · exact chk8_13 i k
  · exact chk8_14 i k
  · exact chk8_15 i k
  · exact chk8_16 i k
  · exact chk8_17 i k
end G
end Go.Proofs.YtejmgafhfbkbnaaGreat
