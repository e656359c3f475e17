/-
  ParseSigns: the checks with sign 11 on the left, computed.
-/
import Derived.Test.YtejmgafhfbkbnaaGreatM6
namespace Go.Proofs.YtejmgafhfbkbnaaGreat
namespace G
open Go B Go.Proofs
theorem chk11_0 (i k : Int) : chk i k 11 0 = true := by kernel_rfl
theorem chk11_1 (i k : Int) : chk i k 11 1 = true := by kernel_rfl
theorem chk11_2 (i k : Int) : chk i k 11 2 = true := by kernel_rfl
theorem chk11_3 (i k : Int) : chk i k 11 3 = true := by kernel_rfl
theorem chk11_4 (i k : Int) : chk i k 11 4 = true := by kernel_rfl
theorem chk11_5 (i k : Int) : chk i k 11 5 = true := by kernel_rfl
theorem chk11_6 (i k : Int) : chk i k 11 6 = true := by kernel_rfl
theorem chk11_7 (i k : Int) : chk i k 11 7 = true := by kernel_rfl
theorem chk11_8 (i k : Int) : chk i k 11 8 = true := by kernel_rfl
theorem chk11_9 (i k : Int) : chk i k 11 9 = true := by kernel_rfl
theorem chk11_10 (i k : Int) : chk i k 11 10 = true := by kernel_rfl
theorem chk11_11 (i k : Int) : chk i k 11 11 = true := by kernel_rfl
theorem chk11_12 (i k : Int) : chk i k 11 12 = true := by kernel_rfl
theorem chk11_13 (i k : Int) : chk i k 11 13 = true := by kernel_rfl
theorem chk11_14 (i k : Int) : chk i k 11 14 = true := by kernel_rfl
theorem chk11_15 (i k : Int) : chk i k 11 15 = true := by kernel_rfl
theorem chk11_16 (i k : Int) : chk i k 11 16 = true := by kernel_rfl
theorem chk11_17 (i k : Int) : chk i k 11 17 = true := by kernel_rfl
theorem chk11 (i k : Int) (b : Nat) (h : b < 18) : chk i k 11 b = true := by
  have hc : b = 0 ∨ b = 1 ∨ b = 2 ∨ b = 3 ∨ b = 4 ∨ b = 5 ∨ b = 6 ∨ b = 7 ∨ b = 8 ∨ b = 9 ∨ b = 10 ∨ b = 11 ∨ b = 12 ∨ b = 13 ∨ b = 14 ∨ b = 15 ∨ b = 16 ∨ b = 17 := by omega
  rcases hc with rfl | rfl | rfl | rfl | rfl | rfl | rfl | rfl | rfl | rfl | rfl | rfl | rfl | rfl | rfl | rfl | rfl | rfl
  · exact chk11_0 i k
  · exact chk11_1 i k
  · exact chk11_2 i k
  · exact chk11_3 i k
  · exact chk11_4 i k
  · exact chk11_5 i k
  · exact chk11_6 i k
  · exact chk11_7 i k
  · exact chk11_8 i k
  · exact chk11_9 i k
  · exact chk11_10 i k
  · exact chk11_11 i k
  · exact chk11_12 i k
  · exact chk11_13 i k
  · exact chk11_14 i k
  · exact chk11_15 i k
  · exact chk11_16 i k
  · exact chk11_17 i k
end G
end Go.Proofs.YtejmgafhfbkbnaaGreat
