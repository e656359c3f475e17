/-
  ParseSigns: the checks with sign 2 on the left, computed.
-/
import Derived.Test.YtejmgafhfbkbnaaGreatM6
namespace Go.Proofs.YtejmgafhfbkbnaaGreat
namespace G
open Go B Go.Proofs
theorem chk2_0 (i k : Int) : chk i k 2 0 = true := by kernel_rfl
theorem chk2_1 (i k : Int) : chk i k 2 1 = true := by kernel_rfl
theorem chk2_2 (i k : Int) : chk i k 2 2 = true := by kernel_rfl
theorem chk2_3 (i k : Int) : chk i k 2 3 = true := by kernel_rfl
theorem chk2_4 (i k : Int) : chk i k 2 4 = true := by kernel_rfl
theorem chk2_5 (i k : Int) : chk i k 2 5 = true := by kernel_rfl
theorem chk2_6 (i k : Int) : chk i k 2 6 = true := by kernel_rfl
theorem chk2_7 (i k : Int) : chk i k 2 7 = true := by kernel_rfl
theorem chk2_8 (i k : Int) : chk i k 2 8 = true := by kernel_rfl
theorem chk2_9 (i k : Int) : chk i k 2 9 = true := by kernel_rfl
theorem chk2_10 (i k : Int) : chk i k 2 10 = true := by kernel_rfl
theorem chk2_11 (i k : Int) : chk i k 2 11 = true := by kernel_rfl
theorem chk2_12 (i k : Int) : chk i k 2 12 = true := by kernel_rfl
theorem chk2_13 (i k : Int) : chk i k 2 13 = true := by kernel_rfl
theorem chk2_14 (i k : Int) : chk i k 2 14 = true := by kernel_rfl
theorem chk2_15 (i k : Int) : chk i k 2 15 = true := by kernel_rfl
theorem chk2_16 (i k : Int) : chk i k 2 16 = true := by kernel_rfl
theorem chk2_17 (i k : Int) : chk i k 2 17 = true := by kernel_rfl
theorem chk2 (i k : Int) (b : Nat) (h : b < 18) : chk i k 2 b = true := by
  have hc : b = 0 ∨ b = 1 ∨ b = 2 ∨ b = 3 ∨ b = 4 ∨ b = 5 ∨ b = 6 ∨ b = 7 ∨ b = 8 ∨ b = 9 ∨ b = 10 ∨ b = 11 ∨ b = 12 ∨ b = 13 ∨ b = 14 ∨ b = 15 ∨ b = 16 ∨ b = 17 := by omega
  rcases hc with rfl | rfl | rfl | rfl | rfl | rfl | rfl | rfl | rfl | rfl | rfl | rfl | rfl | rfl | rfl | rfl | rfl | rfl
  · exact chk2_0 i k
  · exact chk2_1 i k
  · exact chk2_2 i k
  · exact chk2_3 i k
  · exact chk2_4 i k
  · exact chk2_5 i k
  · exact chk2_6 i k
  · exact chk2_7 i k
  · exact chk2_8 i k
  · exact chk2_9 i k
  · exact chk2_10 i k
  · exact chk2_11 i k
  · exact chk2_12 i k
  · exact chk2_13 i k
  · exact chk2_14 i k
  · exact chk2_15 i k
  · exact chk2_16 i k
  · exact chk2_17 i k
end G
end Go.Proofs.YtejmgafhfbkbnaaGreat
