/-
  ParseSigns: the checks with sign 15 on the left, computed.
-/
import Derived.Test.YtejmgafhfbkbnaaGreatM6
namespace Go.Proofs.YtejmgafhfbkbnaaGreat
namespace G
open Go B Go.Proofs
theorem chk15_0 (i k : Int) : chk i k 15 0 = true := by kernel_rfl
theorem chk15_1 (i k : Int) : chk i k 15 1 = true := by kernel_rfl
theorem chk15_2 (i k : Int) : chk i k 15 2 = true := by kernel_rfl
theorem chk15_3 (i k : Int) : chk i k 15 3 = true := by kernel_rfl
theorem chk15_4 (i k : Int) : chk i k 15 4 = true := by kernel_rfl
theorem chk15_5 (i k : Int) : chk i k 15 5 = true := by kernel_rfl
theorem chk15_6 (i k : Int) : chk i k 15 6 = true := by kernel_rfl
theorem chk15_7 (i k : Int) : chk i k 15 7 = true := by kernel_rfl
theorem chk15_8 (i k : Int) : chk i k 15 8 = true := by kernel_rfl
theorem chk15_9 (i k : Int) : chk i k 15 9 = true := by kernel_rfl
theorem chk15_10 (i k : Int) : chk i k 15 10 = true := by kernel_rfl
theorem chk15_11 (i k : Int) : chk i k 15 11 = true := by kernel_rfl
theorem chk15_12 (i k : Int) : chk i k 15 12 = true := by kernel_rfl
theorem chk15_13 (i k : Int) : chk i k 15 13 = true := by kernel_rfl
theorem chk15_14 (i k : Int) : chk i k 15 14 = true := by kernel_rfl
theorem chk15_15 (i k : Int) : chk i k 15 15 = true := by kernel_rfl
theorem chk15_16 (i k : Int) : chk i k 15 16 = true := by kernel_rfl
theorem chk15_17 (i k : Int) : chk i k 15 17 = true := by kernel_rfl
theorem chk15 (i k : Int) (b : Nat) (h : b < 18) : chk i k 15 b = true := by
  have hc : b = 0 ∨ b = 1 ∨ b = 2 ∨ b = 3 ∨ b = 4 ∨ b = 5 ∨ b = 6 ∨ b = 7 ∨ b = 8 ∨ b = 9 ∨ b = 10 ∨ b = 11 ∨ b = 12 ∨ b = 13 ∨ b = 14 ∨ b = 15 ∨ b = 16 ∨ b = 17 := by omega
  rcases hc with rfl | rfl | rfl | rfl | rfl | rfl | rfl | rfl | rfl | rfl | rfl | rfl | rfl | rfl | rfl | rfl | rfl | rfl
  · exact chk15_0 i k
  · exact chk15_1 i k
  · exact chk15_2 i k
  · exact chk15_3 i k
  · exact chk15_4 i k
  · exact chk15_5 i k
  · exact chk15_6 i k
  · exact chk15_7 i k
  · exact chk15_8 i k
  · exact chk15_9 i k
  · exact chk15_10 i k
  · exact chk15_11 i k
  · exact chk15_12 i k
  · exact chk15_13 i k
  · exact chk15_14 i k
  · exact chk15_15 i k
  · exact chk15_16 i k
  · exact chk15_17 i k
end G
end Go.Proofs.YtejmgafhfbkbnaaGreat
