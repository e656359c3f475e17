/-
  ParseSigns: the checks with sign 6 on the left, computed.
-/
import Derived.Test.YtejmgafhfbkbnaaGreatM6
namespace Go.Proofs.YtejmgafhfbkbnaaGreat
namespace G
open Go B Go.Proofs
theorem chk6_0 (i k : Int) : chk i k 6 0 = true := by kernel_rfl
theorem chk6_1 (i k : Int) : chk i k 6 1 = true := by kernel_rfl
theorem chk6_2 (i k : Int) : chk i k 6 2 = true := by kernel_rfl
theorem chk6_3 (i k : Int) : chk i k 6 3 = true := by kernel_rfl
theorem chk6_4 (i k : Int) : chk i k 6 4 = true := by kernel_rfl
theorem chk6_5 (i k : Int) : chk i k 6 5 = true := by kernel_rfl
theorem chk6_6 (i k : Int) : chk i k 6 6 = true := by kernel_rfl
theorem chk6_7 (i k : Int) : chk i k 6 7 = true := by kernel_rfl
theorem chk6_8 (i k : Int) : chk i k 6 8 = true := by kernel_rfl
theorem chk6_9 (i k : Int) : chk i k 6 9 = true := by kernel_rfl
theorem chk6_10 (i k : Int) : chk i k 6 10 = true := by kernel_rfl
theorem chk6_11 (i k : Int) : chk i k 6 11 = true := by kernel_rfl
theorem chk6_12 (i k : Int) : chk i k 6 12 = true := by kernel_rfl
theorem chk6_13 (i k : Int) : chk i k 6 13 = true := by kernel_rfl
theorem chk6_14 (i k : Int) : chk i k 6 14 = true := by kernel_rfl
theorem chk6_15 (i k : Int) : chk i k 6 15 = true := by kernel_rfl
theorem chk6_16 (i k : Int) : chk i k 6 16 = true := by kernel_rfl
theorem chk6_17 (i k : Int) : chk i k 6 17 = true := by kernel_rfl
theorem chk6 (i k : Int) (b : Nat) (h : b < 18) : chk i k 6 b = true := by
  have hc : b = 0 ∨ b = 1 ∨ b = 2 ∨ b = 3 ∨ b = 4 ∨ b = 5 ∨ b = 6 ∨ b = 7 ∨ b = 8 ∨ b = 9 ∨ b = 10 ∨ b = 11 ∨ b = 12 ∨ b = 13 ∨ b = 14 ∨ b = 15 ∨ b = 16 ∨ b = 17 := by omega
  rcases hc with rfl | rfl | rfl | rfl | rfl | rfl | rfl | rfl | rfl | rfl | rfl | rfl | rfl | rfl | rfl | rfl | rfl | rfl
  · exact chk6_0 i k
  · exact chk6_1 i k
  · exact chk6_2 i k
  · exact chk6_3 i k
  · exact chk6_4 i k
  · exact chk6_5 i k
  · exact chk6_6 i k
  · exact chk6_7 i k
  · exact chk6_8 i k
  · exact chk6_9 i k
  · exact chk6_10 i k
  · exact chk6_11 i k
  · exact chk6_12 i k
  · exact chk6_13 i k
  · exact chk6_14 i k
  · exact chk6_15 i k
  · exact chk6_16 i k
  · exact chk6_17 i k
end G
end Go.Proofs.YtejmgafhfbkbnaaGreat
