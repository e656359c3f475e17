/-
  ParseSigns: the checks with sign 7 on the left, computed.
-/
import Derived.Test.YtejmgafhfbkbnaaGreatM6
namespace Go.Proofs.YtejmgafhfbkbnaaGreat
namespace G
open Go B Go.Proofs
theorem chk7_0 (i k : Int) : chk i k 7 0 = true := by kernel_rfl
theorem chk7_1 (i k : Int) : chk i k 7 1 = true := by kernel_rfl
theorem chk7_2 (i k : Int) : chk i k 7 2 = true := by kernel_rfl
theorem chk7_3 (i k : Int) : chk i k 7 3 = true := by kernel_rfl
theorem chk7_4 (i k : Int) : chk i k 7 4 = true := by kernel_rfl
theorem chk7_5 (i k : Int) : chk i k 7 5 = true := by kernel_rfl
theorem chk7_6 (i k : Int) : chk i k 7 6 = true := by kernel_rfl
theorem chk7_7 (i k : Int) : chk i k 7 7 = true := by kernel_rfl
theorem chk7_8 (i k : Int) : chk i k 7 8 = true := by kernel_rfl
theorem chk7_9 (i k : Int) : chk i k 7 9 = true := by kernel_rfl
theorem chk7_10 (i k : Int) : chk i k 7 10 = true := by kernel_rfl
theorem chk7_11 (i k : Int) : chk i k 7 11 = true := by kernel_rfl
theorem chk7_12 (i k : Int) : chk i k 7 12 = true := by kernel_rfl
theorem chk7_13 (i k : Int) : chk i k 7 13 = true := by kernel_rfl
theorem chk7_14 (i k : Int) : chk i k 7 14 = true := by kernel_rfl
theorem chk7_15 (i k : Int) : chk i k 7 15 = true := by kernel_rfl
theorem chk7_16 (i k : Int) : chk i k 7 16 = true := by kernel_rfl
theorem chk7_17 (i k : Int) : chk i k 7 17 = true := by kernel_rfl
theorem chk7 (i k : Int) (b : Nat) (h : b < 18) : chk i k 7 b = true := by
  have hc : b = 0 ∨ b = 1 ∨ b = 2 ∨ b = 3 ∨ b = 4 ∨ b = 5 ∨ b = 6 ∨ b = 7 ∨ b = 8 ∨ b = 9 ∨ b = 10 ∨ b = 11 ∨ b = 12 ∨ b = 13 ∨ b = 14 ∨ b = 15 ∨ b = 16 ∨ b = 17 := by omega
  rcases hc with rfl | rfl | rfl | rfl | rfl | rfl | rfl | rfl | rfl | rfl | rfl | rfl | rfl | rfl | rfl | rfl | rfl | rfl
  · exact chk7_0 i k
  · exact chk7_1 i k
  · exact chk7_2 i k
  · exact chk7_3 i k
  · exact chk7_4 i k
  · exact chk7_5 i k
  · exact chk7_6 i k
  · exact chk7_7 i k
  · exact chk7_8 i k
  · exact chk7_9 i k
  · exact chk7_10 i k
  · exact chk7_11 i k
  · exact chk7_12 i k
  · exact chk7_13 i k
  · exact chk7_14 i k
  · exact chk7_15 i k
  · exact chk7_16 i k
  · exact chk7_17 i k
end G
end Go.Proofs.YtejmgafhfbkbnaaGreat
