/-
  ParseSigns: the checks with sign 9 on the left, computed.
-/
import Derived.Test.YtejmgafhfbkbnaaGreatM6
namespace Go.Proofs.YtejmgafhfbkbnaaGreat
namespace G
open Go B Go.Proofs
theorem chk9_0 (i k : Int) : chk i k 9 0 = true := by kernel_rfl
theorem chk9_1 (i k : Int) : chk i k 9 1 = true := by kernel_rfl
theorem chk9_2 (i k : Int) : chk i k 9 2 = true := by kernel_rfl
theorem chk9_3 (i k : Int) : chk i k 9 3 = true := by kernel_rfl
theorem chk9_4 (i k : Int) : chk i k 9 4 = true := by kernel_rfl
theorem chk9_5 (i k : Int) : chk i k 9 5 = true := by kernel_rfl
theorem chk9_6 (i k : Int) : chk i k 9 6 = true := by kernel_rfl
theorem chk9_7 (i k : Int) : chk i k 9 7 = true := by kernel_rfl
theorem chk9_8 (i k : Int) : chk i k 9 8 = true := by kernel_rfl
theorem chk9_9 (i k : Int) : chk i k 9 9 = true := by kernel_rfl
theorem chk9_10 (i k : Int) : chk i k 9 10 = true := by kernel_rfl
theorem chk9_11 (i k : Int) : chk i k 9 11 = true := by kernel_rfl
theorem chk9_12 (i k : Int) : chk i k 9 12 = true := by kernel_rfl
theorem chk9_13 (i k : Int) : chk i k 9 13 = true := by kernel_rfl
theorem chk9_14 (i k : Int) : chk i k 9 14 = true := by kernel_rfl
theorem chk9_15 (i k : Int) : chk i k 9 15 = true := by kernel_rfl
theorem chk9_16 (i k : Int) : chk i k 9 16 = true := by kernel_rfl
theorem chk9_17 (i k : Int) : chk i k 9 17 = true := by kernel_rfl
theorem chk9 (i k : Int) (b : Nat) (h : b < 18) : chk i k 9 b = true := by
  have hc : b = 0 ∨ b = 1 ∨ b = 2 ∨ b = 3 ∨ b = 4 ∨ b = 5 ∨ b = 6 ∨ b = 7 ∨ b = 8 ∨ b = 9 ∨ b = 10 ∨ b = 11 ∨ b = 12 ∨ b = 13 ∨ b = 14 ∨ b = 15 ∨ b = 16 ∨ b = 17 := by omega
  rcases hc with rfl | rfl | rfl | rfl | rfl | rfl | rfl | rfl | rfl | rfl | rfl | rfl | rfl | rfl | rfl | rfl | rfl | rfl
  · exact chk9_0 i k
  · exact chk9_1 i k
  · exact chk9_2 i k
  · exact chk9_3 i k
  · exact chk9_4 i k
  · exact chk9_5 i k
  · exact chk9_6 i k
  · exact chk9_7 i k
  · exact chk9_8 i k
  · exact chk9_9 i k
  · exact chk9_10 i k
  · exact chk9_11 i k
  · exact chk9_12 i k
  · exact chk9_13 i k
  · exact chk9_14 i k
  · exact chk9_15 i k
  · exact chk9_16 i k
  · exact chk9_17 i k
end G
end Go.Proofs.YtejmgafhfbkbnaaGreat
