/-
  ParseSigns: the checks with sign 16 on the left, computed.
-/
import Derived.Test.YtejmgafhfbkbnaaGreatM6
namespace Go.Proofs.YtejmgafhfbkbnaaGreat
namespace G
open Go B Go.Proofs
theorem chk16_0 (i k : Int) : chk i k 16 0 = true := by kernel_rfl
theorem chk16_1 (i k : Int) : chk i k 16 1 = true := by kernel_rfl
theorem chk16_2 (i k : Int) : chk i k 16 2 = true := by kernel_rfl
theorem chk16_3 (i k : Int) : chk i k 16 3 = true := by kernel_rfl
theorem chk16_4 (i k : Int) : chk i k 16 4 = true := by kernel_rfl
theorem chk16_5 (i k : Int) : chk i k 16 5 = true := by kernel_rfl
theorem chk16_6 (i k : Int) : chk i k 16 6 = true := by kernel_rfl
theorem chk16_7 (i k : Int) : chk i k 16 7 = true := by kernel_rfl
theorem chk16_8 (i k : Int) : chk i k 16 8 = true := by kernel_rfl
theorem chk16_9 (i k : Int) : chk i k 16 9 = true := by kernel_rfl
theorem chk16_10 (i k : Int) : chk i k 16 10 = true := by kernel_rfl
theorem chk16_11 (i k : Int) : chk i k 16 11 = true := by kernel_rfl
theorem chk16_12 (i k : Int) : chk i k 16 12 = true := by kernel_rfl
theorem chk16_13 (i k : Int) : chk i k 16 13 = true := by kernel_rfl
theorem chk16_14 (i k : Int) : chk i k 16 14 = true := by kernel_rfl
theorem chk16_15 (i k : Int) : chk i k 16 15 = true := by kernel_rfl
theorem chk16_16 (i k : Int) : chk i k 16 16 = true := by kernel_rfl
theorem chk16_17 (i k : Int) : chk i k 16 17 = true := by kernel_rfl
theorem chk16 (i k : Int) (b : Nat) (h : b < 18) : chk i k 16 b = true := by
  have hc : b = 0 ∨ b = 1 ∨ b = 2 ∨ b = 3 ∨ b = 4 ∨ b = 5 ∨ b = 6 ∨ b = 7 ∨ b = 8 ∨ b = 9 ∨ b = 10 ∨ b = 11 ∨ b = 12 ∨ b = 13 ∨ b = 14 ∨ b = 15 ∨ b = 16 ∨ b = 17 := by omega
  rcases hc with rfl | rfl | rfl | rfl | rfl | rfl | rfl | rfl | rfl | rfl | rfl | rfl | rfl | rfl | rfl | rfl | rfl | rfl
  · exact chk16_0 i k
  · exact chk16_1 i k
  · exact chk16_2 i k
  · exact chk16_3 i k
  · exact chk16_4 i k
  · exact chk16_5 i k
  · exact chk16_6 i k
  · exact chk16_7 i k
  · exact chk16_8 i k
  · exact chk16_9 i k
  · exact chk16_10 i k
  · exact chk16_11 i k
  · exact chk16_12 i k
  · exact chk16_13 i k
  · exact chk16_14 i k
  · exact chk16_15 i k
  · exact chk16_16 i k
  · exact chk16_17 i k
end G
end Go.Proofs.YtejmgafhfbkbnaaGreat
