/-
  ParseSigns: the checks with sign 10 on the left, computed.
-/
import Derived.Test.YtejmgafhfbkbnaaGreatM6
namespace Go.Proofs.YtejmgafhfbkbnaaGreat
namespace G
open Go B Go.Proofs
theorem chk10_0 (i k : Int) : chk i k 10 0 = true := by kernel_rfl
theorem chk10_1 (i k : Int) : chk i k 10 1 = true := by kernel_rfl
theorem chk10_2 (i k : Int) : chk i k 10 2 = true := by kernel_rfl
theorem chk10_3 (i k : Int) : chk i k 10 3 = true := by kernel_rfl
theorem chk10_4 (i k : Int) : chk i k 10 4 = true := by kernel_rfl
theorem chk10_5 (i k : Int) : chk i k 10 5 = true := by kernel_rfl
theorem chk10_6 (i k : Int) : chk i k 10 6 = true := by kernel_rfl
theorem chk10_7 (i k : Int) : chk i k 10 7 = true := by kernel_rfl
theorem chk10_8 (i k : Int) : chk i k 10 8 = true := by kernel_rfl
theorem chk10_9 (i k : Int) : chk i k 10 9 = true := by kernel_rfl
theorem chk10_10 (i k : Int) : chk i k 10 10 = true := by kernel_rfl
theorem chk10_11 (i k : Int) : chk i k 10 11 = true := by kernel_rfl
theorem chk10_12 (i k : Int) : chk i k 10 12 = true := by kernel_rfl
theorem chk10_13 (i k : Int) : chk i k 10 13 = true := by kernel_rfl
theorem chk10_14 (i k : Int) : chk i k 10 14 = true := by kernel_rfl
theorem chk10_15 (i k : Int) : chk i k 10 15 = true := by kernel_rfl
theorem chk10_16 (i k : Int) : chk i k 10 16 = true := by kernel_rfl
theorem chk10_17 (i k : Int) : chk i k 10 17 = true := by kernel_rfl
theorem chk10 (i k : Int) (b : Nat) (h : b < 18) : chk i k 10 b = true := by
  have hc : b = 0 ∨ b = 1 ∨ b = 2 ∨ b = 3 ∨ b = 4 ∨ b = 5 ∨ b = 6 ∨ b = 7 ∨ b = 8 ∨ b = 9 ∨ b = 10 ∨ b = 11 ∨ b = 12 ∨ b = 13 ∨ b = 14 ∨ b = 15 ∨ b = 16 ∨ b = 17 := by omega
  rcases hc with rfl | rfl | rfl | rfl | rfl | rfl | rfl | rfl | rfl | rfl | rfl | rfl | rfl | rfl | rfl | rfl | rfl | rfl
  · exact chk10_0 i k
  · exact chk10_1 i k
  · exact chk10_2 i k
  · exact chk10_3 i k
  · exact chk10_4 i k
  · exact chk10_5 i k
  · exact chk10_6 i k
  · exact chk10_7 i k
  · exact chk10_8 i k
  · exact chk10_9 i k
  · exact chk10_10 i k
  · exact chk10_11 i k
  · exact chk10_12 i k
  · exact chk10_13 i k
  · exact chk10_14 i k
  · exact chk10_15 i k
  · exact chk10_16 i k
  · exact chk10_17 i k
end G
end Go.Proofs.YtejmgafhfbkbnaaGreat
