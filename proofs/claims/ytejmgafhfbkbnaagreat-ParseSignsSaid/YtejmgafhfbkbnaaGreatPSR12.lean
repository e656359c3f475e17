/-
  ParseSigns: the checks with sign 12 on the left, computed.
-/
import Derived.Test.YtejmgafhfbkbnaaGreatM6
namespace Go.Proofs.YtejmgafhfbkbnaaGreat
namespace G
open Go B Go.Proofs
theorem chk12_0 (i k : Int) : chk i k 12 0 = true := by kernel_rfl
theorem chk12_1 (i k : Int) : chk i k 12 1 = true := by kernel_rfl
theorem chk12_2 (i k : Int) : chk i k 12 2 = true := by kernel_rfl
theorem chk12_3 (i k : Int) : chk i k 12 3 = true := by kernel_rfl
theorem chk12_4 (i k : Int) : chk i k 12 4 = true := by kernel_rfl
theorem chk12_5 (i k : Int) : chk i k 12 5 = true := by kernel_rfl
theorem chk12_6 (i k : Int) : chk i k 12 6 = true := by kernel_rfl
theorem chk12_7 (i k : Int) : chk i k 12 7 = true := by kernel_rfl
theorem chk12_8 (i k : Int) : chk i k 12 8 = true := by kernel_rfl
theorem chk12_9 (i k : Int) : chk i k 12 9 = true := by kernel_rfl
theorem chk12_10 (i k : Int) : chk i k 12 10 = true := by kernel_rfl
theorem chk12_11 (i k : Int) : chk i k 12 11 = true := by kernel_rfl
theorem chk12_12 (i k : Int) : chk i k 12 12 = true := by kernel_rfl
theorem chk12_13 (i k : Int) : chk i k 12 13 = true := by kernel_rfl
theorem chk12_14 (i k : Int) : chk i k 12 14 = true := by kernel_rfl
theorem chk12_15 (i k : Int) : chk i k 12 15 = true := by kernel_rfl
theorem chk12_16 (i k : Int) : chk i k 12 16 = true := by kernel_rfl
theorem chk12_17 (i k : Int) : chk i k 12 17 = true := by kernel_rfl
theorem chk12 (i k : Int) (b : Nat) (h : b < 18) : chk i k 12 b = true := by
  have hc : b = 0 ∨ b = 1 ∨ b = 2 ∨ b = 3 ∨ b = 4 ∨ b = 5 ∨ b = 6 ∨ b = 7 ∨ b = 8 ∨ b = 9 ∨ b = 10 ∨ b = 11 ∨ b = 12 ∨ b = 13 ∨ b = 14 ∨ b = 15 ∨ b = 16 ∨ b = 17 := by omega
  rcases hc with rfl | rfl | rfl | rfl | rfl | rfl | rfl | rfl | rfl | rfl | rfl | rfl | rfl | rfl | rfl | rfl | rfl | rfl
  · exact chk12_0 i k
  · exact chk12_1 i k
  · exact chk12_2 i k
  · exact chk12_3 i k
  · exact chk12_4 i k
  · exact chk12_5 i k
  · exact chk12_6 i k
  · exact chk12_7 i k
  · exact chk12_8 i k
  · exact chk12_9 i k
  · exact chk12_10 i k
  · exact chk12_11 i k
  · exact chk12_12 i k
  · exact chk12_13 i k
  · exact chk12_14 i k
  · exact chk12_15 i k
  · exact chk12_16 i k
  · exact chk12_17 i k
end G
end Go.Proofs.YtejmgafhfbkbnaaGreat
