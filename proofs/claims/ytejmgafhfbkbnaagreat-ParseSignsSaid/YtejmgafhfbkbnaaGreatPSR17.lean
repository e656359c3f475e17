/-
  ParseSigns: the checks with sign 17 on the left, computed.
-/
import Derived.Test.YtejmgafhfbkbnaaGreatM6
namespace Go.Proofs.YtejmgafhfbkbnaaGreat
namespace G
open Go B Go.Proofs
theorem chk17_0 (i k : Int) : chk i k 17 0 = true := by kernel_rfl
theorem chk17_1 (i k : Int) : chk i k 17 1 = true := by kernel_rfl
theorem chk17_2 (i k : Int) : chk i k 17 2 = true := by kernel_rfl
theorem chk17_3 (i k : Int) : chk i k 17 3 = true := by kernel_rfl
theorem chk17_4 (i k : Int) : chk i k 17 4 = true := by kernel_rfl
theorem chk17_5 (i k : Int) : chk i k 17 5 = true := by kernel_rfl
theorem chk17_6 (i k : Int) : chk i k 17 6 = true := by kernel_rfl
theorem chk17_7 (i k : Int) : chk i k 17 7 = true := by kernel_rfl
theorem chk17_8 (i k : Int) : chk i k 17 8 = true := by kernel_rfl
theorem chk17_9 (i k : Int) : chk i k 17 9 = true := by kernel_rfl
theorem chk17_10 (i k : Int) : chk i k 17 10 = true := by kernel_rfl
theorem chk17_11 (i k : Int) : chk i k 17 11 = true := by kernel_rfl
theorem chk17_12 (i k : Int) : chk i k 17 12 = true := by kernel_rfl
theorem chk17_13 (i k : Int) : chk i k 17 13 = true := by kernel_rfl
theorem chk17_14 (i k : Int) : chk i k 17 14 = true := by kernel_rfl
theorem chk17_15 (i k : Int) : chk i k 17 15 = true := by kernel_rfl
theorem chk17_16 (i k : Int) : chk i k 17 16 = true := by kernel_rfl
theorem chk17_17 (i k : Int) : chk i k 17 17 = true := by kernel_rfl
theorem chk17 (i k : Int) (b : Nat) (h : b < 18) : chk i k 17 b = true := by
  have hc : b = 0 ∨ b = 1 ∨ b = 2 ∨ b = 3 ∨ b = 4 ∨ b = 5 ∨ b = 6 ∨ b = 7 ∨ b = 8 ∨ b = 9 ∨ b = 10 ∨ b = 11 ∨ b = 12 ∨ b = 13 ∨ b = 14 ∨ b = 15 ∨ b = 16 ∨ b = 17 := by omega
  rcases hc with rfl | rfl | rfl | rfl | rfl | rfl | rfl | rfl | rfl | rfl | rfl | rfl | rfl | rfl | rfl | rfl | rfl | rfl
  · exact chk17_0 i k
  · exact chk17_1 i k
  · exact chk17_2 i k
  · exact chk17_3 i k
  · exact chk17_4 i k
  · exact chk17_5 i k
  · exact chk17_6 i k
  · exact chk17_7 i k
  · exact chk17_8 i k
  · exact chk17_9 i k
  · exact chk17_10 i k
  · exact chk17_11 i k
  · exact chk17_12 i k
  · exact chk17_13 i k
  · exact chk17_14 i k
  · exact chk17_15 i k
  · exact chk17_16 i k
  · exact chk17_17 i k
end G
end Go.Proofs.YtejmgafhfbkbnaaGreat
