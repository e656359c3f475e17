/-
  ParseSigns: the checks with sign 3 on the left, computed.
-/
import Derived.Test.YtejmgafhfbkbnaaGreatM6
namespace Go.Proofs.YtejmgafhfbkbnaaGreat
namespace G
open Go B Go.Proofs
theorem chk3_0 (i k : Int) : chk i k 3 0 = true := by kernel_rfl
theorem chk3_1 (i k : Int) : chk i k 3 1 = true := by kernel_rfl
theorem chk3_2 (i k : Int) : chk i k 3 2 = true := by kernel_rfl
theorem chk3_3 (i k : Int) : chk i k 3 3 = true := by kernel_rfl
theorem chk3_4 (i k : Int) : chk i k 3 4 = true := by kernel_rfl
theorem chk3_5 (i k : Int) : chk i k 3 5 = true := by kernel_rfl
theorem chk3_6 (i k : Int) : chk i k 3 6 = true := by kernel_rfl
theorem chk3_7 (i k : Int) : chk i k 3 7 = true := by kernel_rfl
theorem chk3_8 (i k : Int) : chk i k 3 8 = true := by kernel_rfl
theorem chk3_9 (i k : Int) : chk i k 3 9 = true := by kernel_rfl
theorem chk3_10 (i k : Int) : chk i k 3 10 = true := by kernel_rfl
theorem chk3_11 (i k : Int) : chk i k 3 11 = true := by kernel_rfl
theorem chk3_12 (i k : Int) : chk i k 3 12 = true := by kernel_rfl
theorem chk3_13 (i k : Int) : chk i k 3 13 = true := by kernel_rfl
theorem chk3_14 (i k : Int) : chk i k 3 14 = true := by kernel_rfl
theorem chk3_15 (i k : Int) : chk i k 3 15 = true := by kernel_rfl
theorem chk3_16 (i k : Int) : chk i k 3 16 = true := by kernel_rfl
theorem chk3_17 (i k : Int) : chk i k 3 17 = true := by kernel_rfl
theorem chk3 (i k : Int) (b : Nat) (h : b < 18) : chk i k 3 b = true := by
  have hc : b = 0 ∨ b = 1 ∨ b = 2 ∨ b = 3 ∨ b = 4 ∨ b = 5 ∨ b = 6 ∨ b = 7 ∨ b = 8 ∨ b = 9 ∨ b = 10 ∨ b = 11 ∨ b = 12 ∨ b = 13 ∨ b = 14 ∨ b = 15 ∨ b = 16 ∨ b = 17 := by omega
  rcases hc with rfl | rfl | rfl | rfl | rfl | rfl | rfl | rfl | rfl | rfl | rfl | rfl | rfl | rfl | rfl | rfl | rfl | rfl
  · exact chk3_0 i k
  · exact chk3_1 i k
  · exact chk3_2 i k
  · exact chk3_3 i k
  · exact chk3_4 i k
  · exact chk3_5 i k
  · exact chk3_6 i k
  · exact chk3_7 i k
  · exact chk3_8 i k
  · exact chk3_9 i k
  · exact chk3_10 i k
  · exact chk3_11 i k
  · exact chk3_12 i k
  · exact chk3_13 i k
  · exact chk3_14 i k
  · exact chk3_15 i k
  · exact chk3_16 i k
  · exact chk3_17 i k
end G
end Go.Proofs.YtejmgafhfbkbnaaGreat
