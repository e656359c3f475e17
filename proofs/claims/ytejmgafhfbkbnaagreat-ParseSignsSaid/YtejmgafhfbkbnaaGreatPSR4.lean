/-
  ParseSigns: the checks with sign 4 on the left, computed.
-/
import Derived.Test.YtejmgafhfbkbnaaGreatM6
namespace Go.Proofs.YtejmgafhfbkbnaaGreat
namespace G
open Go B Go.Proofs
theorem chk4_0 (i k : Int) : chk i k 4 0 = true := by kernel_rfl
theorem chk4_1 (i k : Int) : chk i k 4 1 = true := by kernel_rfl
theorem chk4_2 (i k : Int) : chk i k 4 2 = true := by kernel_rfl
theorem chk4_3 (i k : Int) : chk i k 4 3 = true := by kernel_rfl
theorem chk4_4 (i k : Int) : chk i k 4 4 = true := by kernel_rfl
theorem chk4_5 (i k : Int) : chk i k 4 5 = true := by kernel_rfl
theorem chk4_6 (i k : Int) : chk i k 4 6 = true := by kernel_rfl
theorem chk4_7 (i k : Int) : chk i k 4 7 = true := by kernel_rfl
theorem chk4_8 (i k : Int) : chk i k 4 8 = true := by kernel_rfl
theorem chk4_9 (i k : Int) : chk i k 4 9 = true := by kernel_rfl
theorem chk4_10 (i k : Int) : chk i k 4 10 = true := by kernel_rfl
theorem chk4_11 (i k : Int) : chk i k 4 11 = true := by kernel_rfl
theorem chk4_12 (i k : Int) : chk i k 4 12 = true := by kernel_rfl
theorem chk4_13 (i k : Int) : chk i k 4 13 = true := by kernel_rfl
theorem chk4_14 (i k : Int) : chk i k 4 14 = true := by kernel_rfl
theorem chk4_15 (i k : Int) : chk i k 4 15 = true := by kernel_rfl
theorem chk4_16 (i k : Int) : chk i k 4 16 = true := by kernel_rfl
theorem chk4_17 (i k : Int) : chk i k 4 17 = true := by kernel_rfl
theorem chk4 (i k : Int) (b : Nat) (h : b < 18) : chk i k 4 b = true := by
  have hc : b = 0 ∨ b = 1 ∨ b = 2 ∨ b = 3 ∨ b = 4 ∨ b = 5 ∨ b = 6 ∨ b = 7 ∨ b = 8 ∨ b = 9 ∨ b = 10 ∨ b = 11 ∨ b = 12 ∨ b = 13 ∨ b = 14 ∨ b = 15 ∨ b = 16 ∨ b = 17 := by omega
  rcases hc with rfl | rfl | rfl | rfl | rfl | rfl | rfl | rfl | rfl | rfl | rfl | rfl | rfl | rfl | rfl | rfl | rfl | rfl
  · exact chk4_0 i k
  · exact chk4_1 i k
  · exact chk4_2 i k
  · exact chk4_3 i k
  · exact chk4_4 i k
  · exact chk4_5 i k
  · exact chk4_6 i k
  · exact chk4_7 i k
  · exact chk4_8 i k
  · exact chk4_9 i k
  · exact chk4_10 i k
  · exact chk4_11 i k
  · exact chk4_12 i k
  · exact chk4_13 i k
  · exact chk4_14 i k
  · exact chk4_15 i k
  · exact chk4_16 i k
  · exact chk4_17 i k
end G
end Go.Proofs.YtejmgafhfbkbnaaGreat
