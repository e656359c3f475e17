/-
  ParseSigns: the checks with sign 5 on the left, computed.
-/
import Derived.Test.YtejmgafhfbkbnaaGreatM6
namespace Go.Proofs.YtejmgafhfbkbnaaGreat
namespace G
open Go B Go.Proofs
theorem chk5_0 (i k : Int) : chk i k 5 0 = true := by kernel_rfl
theorem chk5_1 (i k : Int) : chk i k 5 1 = true := by kernel_rfl
theorem chk5_2 (i k : Int) : chk i k 5 2 = true := by kernel_rfl
theorem chk5_3 (i k : Int) : chk i k 5 3 = true := by kernel_rfl
theorem chk5_4 (i k : Int) : chk i k 5 4 = true := by kernel_rfl
theorem chk5_5 (i k : Int) : chk i k 5 5 = true := by kernel_rfl
theorem chk5_6 (i k : Int) : chk i k 5 6 = true := by kernel_rfl
theorem chk5_7 (i k : Int) : chk i k 5 7 = true := by kernel_rfl
theorem chk5_8 (i k : Int) : chk i k 5 8 = true := by kernel_rfl
theorem chk5_9 (i k : Int) : chk i k 5 9 = true := by kernel_rfl
theorem chk5_10 (i k : Int) : chk i k 5 10 = true := by kernel_rfl
theorem chk5_11 (i k : Int) : chk i k 5 11 = true := by kernel_rfl
theorem chk5_12 (i k : Int) : chk i k 5 12 = true := by kernel_rfl
theorem chk5_13 (i k : Int) : chk i k 5 13 = true := by kernel_rfl
theorem chk5_14 (i k : Int) : chk i k 5 14 = true := by kernel_rfl
theorem chk5_15 (i k : Int) : chk i k 5 15 = true := by kernel_rfl
theorem chk5_16 (i k : Int) : chk i k 5 16 = true := by kernel_rfl
theorem chk5_17 (i k : Int) : chk i k 5 17 = true := by kernel_rfl
theorem chk5 (i k : Int) (b : Nat) (h : b < 18) : chk i k 5 b = true := by
  have hc : b = 0 ∨ b = 1 ∨ b = 2 ∨ b = 3 ∨ b = 4 ∨ b = 5 ∨ b = 6 ∨ b = 7 ∨ b = 8 ∨ b = 9 ∨ b = 10 ∨ b = 11 ∨ b = 12 ∨ b = 13 ∨ b = 14 ∨ b = 15 ∨ b = 16 ∨ b = 17 := by omega
  rcases hc with rfl | rfl | rfl | rfl | rfl | rfl | rfl | rfl | rfl | rfl | rfl | rfl | rfl | rfl | rfl | rfl | rfl | rfl
  · exact chk5_0 i k
  · exact chk5_1 i k
  · exact chk5_2 i k
  · exact chk5_3 i k
  · exact chk5_4 i k
  · exact chk5_5 i k
  · exact chk5_6 i k
  · exact chk5_7 i k
  · exact chk5_8 i k
  · exact chk5_9 i k
  · exact chk5_10 i k
  · exact chk5_11 i k
  · exact chk5_12 i k
  · exact chk5_13 i k
  · exact chk5_14 i k
  · exact chk5_15 i k
  · exact chk5_16 i k
  · exact chk5_17 i k
end G
end Go.Proofs.YtejmgafhfbkbnaaGreat
