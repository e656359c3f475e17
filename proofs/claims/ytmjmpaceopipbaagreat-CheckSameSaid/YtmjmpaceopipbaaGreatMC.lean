/-
  CheckSame's functions: their trees, what they compute.
-/
import Derived.Test.YtmjmpaceopipbaaGreatMF
import Derived.ProofKit
import Derived.ChangeMaps5
namespace Go.Proofs.YtmjmpaceopipbaaGreat
namespace X
open Go B Go.Proofs
def tr3001_b1 : FT := .len false (.x 4) (.bin .lss 3 (.x 7) (.x 8) (.br (.x 9) (.bin .leq 3 (.x 6) (.x 5) (.br (.x 10) (.bnd 37 (.x 4) (.x 7) (.ld 37 4 (.x 7) 0 [true, true, true, true, false] (.call 3001 [.x 11, .x 12, .x 13, .x 14, .x 15, .x 5] (.bin .add 3 (.x 6) (.x 16) (.bin .add 3 (.x 7) (.c (.int .i64 1)) (.again [.x 17, .x 18]))) (.stop 40) (.stop 40)))) (.out (.bin .add 3 (.x 5) (.c (.int .i64 1)) (.min (.x 6) (.x 11) (.fin 0 [.x 12])))))) (.out (.bin .add 3 (.x 5) (.c (.int .i64 1)) (.min (.x 6) (.x 10) (.fin 0 [.x 11]))))))
def tr3001 : FT := .loop [.c (.int .i64 1), .c (.int .i64 0)] tr3001_b1
theorem eq3001 (hand : FunT) (ρ : List D) : ML prg hand 3001 ρ = finO (dentL theTabs (ML prg hand) tr3001 ρ) := ML_tree (by kernel_rfl) ρ
def tr3002_b2 : FT := .len false (.x 1) (.bin .lss 3 (.x 12) (.x 13) (.br (.x 14) (.bin .leq 3 (.x 11) (.x 2) (.br (.x 15) (.bnd 39 (.x 1) (.x 12) (.bnd 39 (.x 1) (.x 12) (.ld 39 1 (.x 12) 4 [true, true, true, true, false] (.bnd 39 (.x 1) (.x 12) (.bnd 39 (.x 1) (.x 12) (.ld 39 1 (.x 12) 3 [false] (.len false (.x 21) (.bnd 39 (.x 1) (.x 12) (.bnd 39 (.x 1) (.x 12) (.ld 39 1 (.x 12) 1 [false] (.len false (.x 23) (.bnd 39 (.x 1) (.x 12) (.bnd 39 (.x 1) (.x 12) (.ld 39 1 (.x 12) 2 [false] (.len false (.x 25) (.call 3001 [.x 16, .x 17, .x 18, .x 19, .x 20, .x 2] (.bin .add 3 (.x 11) (.x 27) (.bin .add 3 (.x 28) (.x 22) (.bin .add 3 (.x 29) (.x 24) (.bin .add 3 (.x 30) (.x 26) (.bin .add 3 (.x 12) (.c (.int .i64 1)) (.again [.x 31, .x 32])))))) (.stop 40) (.stop 40))))))))))))))))) (.out (.bin .leq 3 (.x 11) (.x 2) (.fin 0 [.x 16]))))) (.out (.bin .leq 3 (.x 11) (.x 2) (.fin 0 [.x 15])))))
def tr3002_b3 : FT := .len false (.x 1) (.bin .lss 3 (.x 11) (.x 12) (.br (.x 13) (.bin .leq 3 (.x 10) (.x 2) (.br (.x 14) (.bnd 39 (.x 1) (.x 11) (.bnd 39 (.x 1) (.x 11) (.ld 39 1 (.x 11) 4 [true, true, true, true, false] (.bnd 39 (.x 1) (.x 11) (.bnd 39 (.x 1) (.x 11) (.ld 39 1 (.x 11) 3 [false] (.len false (.x 20) (.bnd 39 (.x 1) (.x 11) (.bnd 39 (.x 1) (.x 11) (.ld 39 1 (.x 11) 1 [false] (.len false (.x 22) (.bnd 39 (.x 1) (.x 11) (.bnd 39 (.x 1) (.x 11) (.ld 39 1 (.x 11) 2 [false] (.len false (.x 24) (.call 3001 [.x 15, .x 16, .x 17, .x 18, .x 19, .x 2] (.bin .add 3 (.x 10) (.x 26) (.bin .add 3 (.x 27) (.x 21) (.bin .add 3 (.x 28) (.x 23) (.bin .add 3 (.x 29) (.x 25) (.bin .add 3 (.x 11) (.c (.int .i64 1)) (.again [.x 30, .x 31])))))) (.stop 40) (.stop 40))))))))))))))))) (.out (.bin .leq 3 (.x 10) (.x 2) (.fin 0 [.x 15]))))) (.out (.bin .leq 3 (.x 10) (.x 2) (.fin 0 [.x 14])))))
def tr3002_b1 : FT := .len false (.x 0) (.bin .lss 3 (.x 7) (.x 8) (.br (.x 9) (.bin .leq 3 (.x 6) (.x 2) (.br (.x 10) (.bnd 32 (.x 0) (.x 7) (.bnd 32 (.x 0) (.x 7) (.ld 32 0 (.x 7) 2 [false] (.len false (.x 11) (.bin .add 3 (.x 6) (.x 12) (.bin .add 3 (.x 7) (.c (.int .i64 1)) (.again [.x 13, .x 14]))))))) (.out (.loop [.x 6, .c (.int .i64 0)] tr3002_b2)))) (.out (.loop [.x 6, .c (.int .i64 0)] tr3002_b3))))
def tr3002 : FT := .len false (.x 0) (.len false (.x 1) (.bin .add 3 (.x 3) (.x 4) (.loop [.x 5, .c (.int .i64 0)] tr3002_b1)))
theorem eq3002 (hand : FunT) (ρ : List D) : ML prg hand 3002 ρ = finO (dentL theTabs (ML prg hand) tr3002 ρ) := ML_tree (by kernel_rfl) ρ
def tr3003_b1 : FT := .len false (.x 0) (.bin .lss 3 (.x 5) (.x 6) (.br (.x 7) (.bnd 3 (.x 0) (.x 5) (.ld 3 0 (.x 5) 0 [true] (.bnd 3 (.x 1) (.x 5) (.ld 3 1 (.x 5) 0 [true] (.bin .neq 3 (.x 8) (.x 9) (.br (.x 10) (.out (.fin 0 [.c (.bool false)])) (.bin .add 3 (.x 5) (.c (.int .i64 1)) (.again [.x 11])))))))) (.out (.fin 0 [.c (.bool true)]))))
def tr3003 : FT := .len false (.x 0) (.len false (.x 1) (.bin .neq 3 (.x 2) (.x 3) (.br (.x 4) (.fin 0 [.c (.bool false)]) (.loop [.c (.int .i64 0)] tr3003_b1))))
theorem eq3003 (hand : FunT) (ρ : List D) : ML prg hand 3003 ρ = finO (dentL theTabs (ML prg hand) tr3003 ρ) := ML_tree (by kernel_rfl) ρ
def tr3004_b1 : FT := .bin .lss 3 (.x 3) (.c (.int .i64 3)) (.br (.x 4) (.bin .sub 3 (.c (.int .i64 (-771))) (.x 3) (.mk 3 false [[.x 5]] (.app 34 (.x 2) (.x 6) (.bin .add 3 (.x 3) (.c (.int .i64 1)) (.again [.x 7, .x 8]))))) (.out (.len false (.x 0) (.lsl 3 (.x 2) none (some (.x 5)) (.fin 0 [.x 6])))))
def tr3004 : FT := .app 34 (.c (.slice none 0 0)) (.x 0) (.loop [.x 1, .c (.int .i64 0)] tr3004_b1)
theorem eq3004 (hand : FunT) (ρ : List D) : ML prg hand 3004 ρ = finO (dentL theTabs (ML prg hand) tr3004 ρ) := ML_tree (by kernel_rfl) ρ
def tr3005_b1 : FT := .bin .lss 3 (.x 7) (.c (.int .i64 3)) (.br (.x 8) (.len false (.x 1) (.bin .add 3 (.x 9) (.x 7) (.bnd 3 (.x 6) (.x 10) (.ld 3 6 (.x 10) 0 [true] (.bin .sub 3 (.c (.int .i64 (-771))) (.x 7) (.bin .neq 3 (.x 11) (.x 12) (.br (.x 13) (.out (.fin 0 [.c (.bool false)])) (.bin .add 3 (.x 7) (.c (.int .i64 1)) (.again [.x 14]))))))))) (.out (.fin 0 [.c (.bool true)])))
def tr3005 : FT := .call 3003 [.x 0, .x 1] (.un .not (.x 2) (.br (.x 3) (.fin 0 [.c (.bool false)]) (.len false (.x 1) (.bin .add 3 (.x 4) (.c (.int .i64 3)) (.lsl 3 (.x 0) none (some (.x 5)) (.loop [.c (.int .i64 0)] tr3005_b1)))))) (.stop 40) (.stop 40)
theorem eq3005 (hand : FunT) (ρ : List D) : ML prg hand 3005 ρ = finO (dentL theTabs (ML prg hand) tr3005 ρ) := ML_tree (by kernel_rfl) ρ
def tr3006_b2 : FT := .len false (.x 10) (.bin .lss 3 (.x 25) (.x 26) (.br (.x 27) (.bnd 45 (.x 10) (.x 25) (.ld 45 10 (.x 25) 0 [true, true] (.bnd 45 (.x 15) (.x 25) (.ld 45 15 (.x 25) 0 [true, true] (.eqs 45 true [.x 28, .x 29] [.x 30, .x 31] (.br (.x 32) (.out (.out (.fin 0 [.c (.bool false)]))) (.bin .add 3 (.x 25) (.c (.int .i64 1)) (.again [.x 33])))))))) (.out (.bin .add 3 (.x 5) (.c (.int .i64 1)) (.again [.x 28])))))
def tr3006_b1 : FT := .len false (.x 0) (.bin .lss 3 (.x 5) (.x 6) (.br (.x 7) (.bnd 32 (.x 0) (.x 5) (.ld 32 0 (.x 5) 0 [true, true, false, true, true] (.bnd 32 (.x 1) (.x 5) (.ld 32 1 (.x 5) 0 [true, true, false, true, true] (.bin .neq 5 (.x 8) (.x 13) (.br (.x 18) (.out (.fin 0 [.c (.bool false)])) (.bin .neq 9 (.x 9) (.x 14) (.br (.x 19) (.out (.fin 0 [.c (.bool false)])) (.bin .neq 3 (.x 11) (.x 16) (.br (.x 20) (.out (.fin 0 [.c (.bool false)])) (.bin .neq 3 (.x 12) (.x 17) (.br (.x 21) (.out (.fin 0 [.c (.bool false)])) (.len false (.x 10) (.len false (.x 15) (.bin .neq 3 (.x 22) (.x 23) (.br (.x 24) (.out (.fin 0 [.c (.bool false)])) (.loop [.c (.int .i64 0)] tr3006_b2))))))))))))))))) (.out (.fin 0 [.c (.bool true)]))))
def tr3006 : FT := .len false (.x 0) (.len false (.x 1) (.bin .neq 3 (.x 2) (.x 3) (.br (.x 4) (.fin 0 [.c (.bool false)]) (.loop [.c (.int .i64 0)] tr3006_b1))))
theorem eq3006 (hand : FunT) (ρ : List D) : ML prg hand 3006 ρ = finO (dentL theTabs (ML prg hand) tr3006 ρ) := ML_tree (by kernel_rfl) ρ
def tr3007_b1 : FT := .len false (.x 0) (.bin .lss 3 (.x 2) (.x 3) (.br (.x 4) (.bnd 32 (.x 0) (.x 2) (.ld 32 0 (.x 2) 0 [true, true, false, true, true] (.bnd 32 (.x 0) (.x 2) (.bnd 32 (.x 0) (.x 2) (.ld 32 0 (.x 2) 2 [false] (.app 30 (.c (.slice none 0 0)) (.x 10) (.mk 45 true [[.c (.string (str [])), .c (.int .i64 (-77))]] (.app 30 (.x 11) (.x 12) (.bnd 32 (.x 0) (.x 2) (.bnd 32 (.x 0) (.x 2) (.ld 32 0 (.x 2) 2 [false] (.len false (.x 14) (.lsl 45 (.x 13) none (some (.x 15)) (.mk 32 true [[.x 5, .x 6, .x 16, .x 8, .x 9]] (.app 22 (.x 1) (.x 17) (.bin .add 3 (.x 2) (.c (.int .i64 1)) (.again [.x 18, .x 19]))))))))))))))))) (.out (.mk 32 true [[.c (.int .u8 177), .c (.string (str [])), .c (.slice none 0 0), .c (.int .i64 0), .c (.int .i64 0)]] (.app 22 (.x 1) (.x 5) (.len false (.x 0) (.lsl 32 (.x 6) none (some (.x 7)) (.fin 0 [.x 8]))))))))
def tr3007 : FT := .loop [.c (.slice none 0 0), .c (.int .i64 0)] tr3007_b1
theorem eq3007 (hand : FunT) (ρ : List D) : ML prg hand 3007 ρ = finO (dentL theTabs (ML prg hand) tr3007 ρ) := ML_tree (by kernel_rfl) ρ
def tr3008_b1 : FT := .len false (.x 1) (.bin .lss 3 (.x 10) (.x 11) (.br (.x 12) (.bnd 32 (.x 1) (.x 10) (.bnd 32 (.x 1) (.x 10) (.ld 32 1 (.x 10) 2 [false] (.len false (.x 13) (.bnd 32 (.x 0) (.x 10) (.bnd 32 (.x 0) (.x 10) (.ld 32 0 (.x 10) 2 [false] (.bin .add 3 (.x 14) (.c (.int .i64 1)) (.lsl 45 (.x 15) none (some (.x 16)) (.bnd 45 (.x 17) (.x 14) (.bnd 45 (.x 17) (.x 14) (.ld 45 17 (.x 14) 1 [true] (.bin .neq 3 (.x 18) (.c (.int .i64 (-77))) (.br (.x 19) (.out (.fin 0 [.c (.bool false)])) (.bin .add 3 (.x 10) (.c (.int .i64 1)) (.again [.x 20])))))))))))))))) (.out (.fin 0 [.c (.bool true)]))))
def tr3008 : FT := .call 3006 [.x 0, .x 1] (.un .not (.x 2) (.br (.x 3) (.fin 0 [.c (.bool false)]) (.len false (.x 1) (.bin .add 3 (.x 4) (.c (.int .i64 1)) (.lsl 32 (.x 0) none (some (.x 5)) (.len false (.x 1) (.bnd 32 (.x 6) (.x 7) (.bnd 32 (.x 6) (.x 7) (.ld 32 6 (.x 7) 0 [true] (.bin .neq 5 (.x 8) (.c (.int .u8 177)) (.br (.x 9) (.fin 0 [.c (.bool false)]) (.loop [.c (.int .i64 0)] tr3008_b1)))))))))))) (.stop 40) (.stop 40)
theorem eq3008 (hand : FunT) (ρ : List D) : ML prg hand 3008 ρ = finO (dentL theTabs (ML prg hand) tr3008 ρ) := ML_tree (by kernel_rfl) ρ
def tr3009_b1 : FT := .len false (.x 4) (.bin .lss 3 (.x 5) (.x 7) (.br (.x 8) (.bnd 37 (.x 4) (.x 5) (.ld 37 4 (.x 5) 0 [true, true, true, true, false] (.call 3009 [.x 9, .x 10, .x 11, .x 12, .x 13] (.mk 37 true [[.x 14, .x 15, .x 16, .x 17, .x 18]] (.app 35 (.x 6) (.x 19) (.bin .add 3 (.x 5) (.c (.int .i64 1)) (.again [.x 21, .x 20])))) (.stop 40) (.stop 40)))) (.out (.mk 37 true [[.c (.int .u8 177), .c (.int .i64 0), .c (.int .i64 0), .c (.string (str [])), .c (.slice none 0 0)], [.c (.int .u8 178), .c (.int .i64 0), .c (.int .i64 0), .c (.string (str [])), .c (.slice none 0 0)]] (.app 35 (.x 6) (.x 9) (.len false (.x 4) (.lsl 37 (.x 10) none (some (.x 11)) (.fin 0 [.x 0, .x 1, .x 2, .x 3, .x 12]))))))))
def tr3009 : FT := .loop [.c (.int .i64 0), .c (.slice none 0 0)] tr3009_b1
theorem eq3009 (hand : FunT) (ρ : List D) : ML prg hand 3009 ρ = finO (dentL theTabs (ML prg hand) tr3009 ρ) := ML_tree (by kernel_rfl) ρ
def tr3010_b1 : FT := .len false (.x 9) (.bin .lss 3 (.x 17) (.x 18) (.br (.x 19) (.bnd 37 (.x 4) (.x 17) (.ld 37 4 (.x 17) 0 [true, true, true, true, false] (.bnd 37 (.x 9) (.x 17) (.ld 37 9 (.x 17) 0 [true, true, true, true, false] (.call 3010 [.x 20, .x 21, .x 22, .x 23, .x 24, .x 25, .x 26, .x 27, .x 28, .x 29] (.un .not (.x 30) (.br (.x 31) (.out (.fin 0 [.c (.bool false)])) (.bin .add 3 (.x 17) (.c (.int .i64 1)) (.again [.x 32])))) (.stop 40) (.stop 40)))))) (.out (.len false (.x 9) (.bin .add 3 (.x 20) (.c (.int .i64 2)) (.lsl 37 (.x 4) none (some (.x 21)) (.len false (.x 9) (.bnd 37 (.x 22) (.x 23) (.bnd 37 (.x 22) (.x 23) (.ld 37 22 (.x 23) 0 [true] (.bin .eql 5 (.x 24) (.c (.int .u8 177)) (.br (.x 25) (.len false (.x 9) (.bin .add 3 (.x 26) (.c (.int .i64 1)) (.bnd 37 (.x 22) (.x 27) (.bnd 37 (.x 22) (.x 27) (.ld 37 22 (.x 27) 0 [true] (.bin .eql 5 (.x 28) (.c (.int .u8 178)) (.fin 0 [.x 29]))))))) (.fin 0 [.c (.bool false)])))))))))))))
def tr3010 : FT := .bin .neq 5 (.x 0) (.x 5) (.br (.x 10) (.fin 0 [.c (.bool false)]) (.bin .neq 3 (.x 1) (.x 6) (.br (.x 11) (.fin 0 [.c (.bool false)]) (.bin .neq 2 (.x 2) (.x 7) (.br (.x 12) (.fin 0 [.c (.bool false)]) (.bin .neq 9 (.x 3) (.x 8) (.br (.x 13) (.fin 0 [.c (.bool false)]) (.len false (.x 4) (.len false (.x 9) (.bin .neq 3 (.x 14) (.x 15) (.br (.x 16) (.fin 0 [.c (.bool false)]) (.loop [.c (.int .i64 0)] tr3010_b1))))))))))))
theorem eq3010 (hand : FunT) (ρ : List D) : ML prg hand 3010 ρ = finO (dentL theTabs (ML prg hand) tr3010 ρ) := ML_tree (by kernel_rfl) ρ
def tr3011_b1 : FT := .len false (.x 1) (.bin .lss 3 (.x 3) (.x 5) (.br (.x 6) (.bnd 39 (.x 1) (.x 3) (.ld 39 1 (.x 3) 0 [true, false, false, false, true, true, true, true, false, true] (.call 3004 [.x 8] (.call 3004 [.x 9] (.call 3004 [.x 10] (.call 3009 [.x 11, .x 12, .x 13, .x 14, .x 15] (.mk 39 true [[.x 7, .x 17, .x 18, .x 19, .x 20, .x 21, .x 22, .x 23, .x 24, .x 16]] (.app 23 (.x 4) (.x 25) (.bin .add 3 (.x 3) (.c (.int .i64 1)) (.again [.x 27, .x 26])))) (.stop 40) (.stop 40)) (.stop 40) (.stop 40)) (.stop 40) (.stop 40)) (.stop 40) (.stop 40)))) (.out (.mk 39 true [[.c (.string (str [])), .c (.slice none 0 0), .c (.slice none 0 0), .c (.slice none 0 0), .c (.int .u8 0), .c (.int .i64 0), .c (.int .i64 0), .c (.string (str [])), .c (.slice none 0 0), .c (.int .i64 (-77))]] (.app 23 (.x 4) (.x 7) (.len false (.x 1) (.lsl 39 (.x 8) none (some (.x 9)) (.fin 0 [.x 2, .x 10]))))))))
def tr3011 : FT := .call 3007 [.x 0] (.loop [.c (.int .i64 0), .c (.slice none 0 0)] tr3011_b1) (.stop 40) (.stop 40)
theorem eq3011 (hand : FunT) (ρ : List D) : ML prg hand 3011 ρ = finO (dentL theTabs (ML prg hand) tr3011 ρ) := ML_tree (by kernel_rfl) ρ
def tr3012_b1 : FT := .len false (.x 3) (.bin .lss 3 (.x 15) (.x 16) (.br (.x 17) (.bnd 39 (.x 1) (.x 15) (.ld 39 1 (.x 15) 0 [true, false, false, false, true, true, true, true, false, true] (.bnd 39 (.x 3) (.x 15) (.ld 39 3 (.x 15) 0 [true, false, false, false, true, true, true, true, false, true] (.bin .neq 9 (.x 18) (.x 28) (.br (.x 38) (.out (.fin 0 [.c (.bool false)])) (.bin .neq 3 (.x 27) (.x 37) (.br (.x 39) (.out (.fin 0 [.c (.bool false)])) (.call 3005 [.x 19, .x 29] (.un .not (.x 40) (.br (.x 41) (.out (.fin 0 [.c (.bool false)])) (.call 3005 [.x 20, .x 30] (.un .not (.x 42) (.br (.x 43) (.out (.fin 0 [.c (.bool false)])) (.call 3005 [.x 21, .x 31] (.un .not (.x 44) (.br (.x 45) (.out (.fin 0 [.c (.bool false)])) (.call 3010 [.x 22, .x 23, .x 24, .x 25, .x 26, .x 32, .x 33, .x 34, .x 35, .x 36] (.un .not (.x 46) (.br (.x 47) (.out (.fin 0 [.c (.bool false)])) (.bin .add 3 (.x 15) (.c (.int .i64 1)) (.again [.x 48])))) (.stop 40) (.stop 40)))) (.stop 40) (.stop 40)))) (.stop 40) (.stop 40)))) (.stop 40) (.stop 40)))))))))) (.out (.fin 0 [.c (.bool true)]))))
def tr3012 : FT := .call 3008 [.x 0, .x 2] (.un .not (.x 4) (.br (.x 5) (.fin 0 [.c (.bool false)]) (.len false (.x 1) (.len false (.x 3) (.bin .neq 3 (.x 6) (.x 7) (.br (.x 8) (.fin 0 [.c (.bool false)]) (.len false (.x 3) (.bin .add 3 (.x 9) (.c (.int .i64 1)) (.lsl 39 (.x 1) none (some (.x 10)) (.len false (.x 3) (.bnd 39 (.x 11) (.x 12) (.bnd 39 (.x 11) (.x 12) (.ld 39 11 (.x 12) 9 [true] (.bin .neq 3 (.x 13) (.c (.int .i64 (-77))) (.br (.x 14) (.fin 0 [.c (.bool false)]) (.loop [.c (.int .i64 0)] tr3012_b1)))))))))))))))) (.stop 40) (.stop 40)
theorem eq3012 (hand : FunT) (ρ : List D) : ML prg hand 3012 ρ = finO (dentL theTabs (ML prg hand) tr3012 ρ) := ML_tree (by kernel_rfl) ρ
def tr3013 : FT := .bin .eql 5 (.x 0) (.x 5) (.br (.x 10) (.bin .eql 3 (.x 1) (.x 6) (.br (.x 11) (.bin .eql 2 (.x 2) (.x 7) (.br (.x 12) (.bin .eql 9 (.x 3) (.x 8) (.br (.x 13) (.call 3014 [.x 4, .x 9] (.fin 0 [.x 14]) (.stop 40) (.stop 40)) (.fin 0 [.c (.bool false)]))) (.fin 0 [.c (.bool false)]))) (.fin 0 [.c (.bool false)]))) (.fin 0 [.c (.bool false)]))
theorem eq3013 (hand : FunT) (ρ : List D) : ML prg hand 3013 ρ = finO (dentL theTabs (ML prg hand) tr3013 ρ) := ML_tree (by kernel_rfl) ρ
def tr3014_b1 : FT := .bin .lss 3 (.x 6) (.x 5) (.br (.x 7) (.bnd 37 (.x 0) (.x 6) (.ld 37 0 (.x 6) 0 [true, true, true, true, false] (.bnd 37 (.x 1) (.x 6) (.ld 37 1 (.x 6) 0 [true, true, true, true, false] (.call 3013 [.x 8, .x 9, .x 10, .x 11, .x 12, .x 13, .x 14, .x 15, .x 16, .x 17] (.un .not (.x 18) (.br (.x 19) (.out (.fin 0 [.c (.bool false)])) (.bin .add 3 (.x 6) (.c (.int .i64 1)) (.again [.x 20])))) (.stop 40) (.stop 40)))))) (.out (.fin 0 [.c (.bool true)])))
def tr3014 : FT := .len false (.x 0) (.len false (.x 1) (.bin .neq 3 (.x 2) (.x 3) (.br (.x 4) (.fin 0 [.c (.bool false)]) (.len false (.x 0) (.loop [.c (.int .i64 0)] tr3014_b1)))))
theorem eq3014 (hand : FunT) (ρ : List D) : ML prg hand 3014 ρ = finO (dentL theTabs (ML prg hand) tr3014 ρ) := ML_tree (by kernel_rfl) ρ
def tr3015_b1 : FT := .bin .lss 3 (.x 6) (.x 5) (.br (.x 7) (.bnd 3 (.x 0) (.x 6) (.ld 3 0 (.x 6) 0 [true] (.bnd 3 (.x 1) (.x 6) (.ld 3 1 (.x 6) 0 [true] (.bin .neq 3 (.x 8) (.x 9) (.br (.x 10) (.out (.fin 0 [.c (.bool false)])) (.bin .add 3 (.x 6) (.c (.int .i64 1)) (.again [.x 11])))))))) (.out (.fin 0 [.c (.bool true)])))
def tr3015 : FT := .len false (.x 0) (.len false (.x 1) (.bin .neq 3 (.x 2) (.x 3) (.br (.x 4) (.fin 0 [.c (.bool false)]) (.len false (.x 0) (.loop [.c (.int .i64 0)] tr3015_b1)))))
theorem eq3015 (hand : FunT) (ρ : List D) : ML prg hand 3015 ρ = finO (dentL theTabs (ML prg hand) tr3015 ρ) := ML_tree (by kernel_rfl) ρ
def tr3016_b1 : FT := .bin .lss 3 (.x 6) (.x 5) (.br (.x 7) (.bnd 45 (.x 0) (.x 6) (.ld 45 0 (.x 6) 0 [true, true] (.bnd 45 (.x 1) (.x 6) (.ld 45 1 (.x 6) 0 [true, true] (.eqs 45 true [.x 8, .x 9] [.x 10, .x 11] (.br (.x 12) (.out (.fin 0 [.c (.bool false)])) (.bin .add 3 (.x 6) (.c (.int .i64 1)) (.again [.x 13])))))))) (.out (.fin 0 [.c (.bool true)])))
def tr3016 : FT := .len false (.x 0) (.len false (.x 1) (.bin .neq 3 (.x 2) (.x 3) (.br (.x 4) (.fin 0 [.c (.bool false)]) (.len false (.x 0) (.loop [.c (.int .i64 0)] tr3016_b1)))))
theorem eq3016 (hand : FunT) (ρ : List D) : ML prg hand 3016 ρ = finO (dentL theTabs (ML prg hand) tr3016 ρ) := ML_tree (by kernel_rfl) ρ
def tr3017_b1 : FT := .bin .lss 3 (.x 6) (.x 5) (.br (.x 7) (.bnd 32 (.x 0) (.x 6) (.ld 32 0 (.x 6) 0 [true, true, false, true, true] (.bnd 32 (.x 1) (.x 6) (.ld 32 1 (.x 6) 0 [true, true, false, true, true] (.call 3019 [.x 8, .x 9, .x 10, .x 11, .x 12, .x 13, .x 14, .x 15, .x 16, .x 17] (.un .not (.x 18) (.br (.x 19) (.out (.fin 0 [.c (.bool false)])) (.bin .add 3 (.x 6) (.c (.int .i64 1)) (.again [.x 20])))) (.stop 40) (.stop 40)))))) (.out (.fin 0 [.c (.bool true)])))
def tr3017 : FT := .len false (.x 0) (.len false (.x 1) (.bin .neq 3 (.x 2) (.x 3) (.br (.x 4) (.fin 0 [.c (.bool false)]) (.len false (.x 0) (.loop [.c (.int .i64 0)] tr3017_b1)))))
theorem eq3017 (hand : FunT) (ρ : List D) : ML prg hand 3017 ρ = finO (dentL theTabs (ML prg hand) tr3017 ρ) := ML_tree (by kernel_rfl) ρ
def tr3018_b1 : FT := .bin .lss 3 (.x 6) (.x 5) (.br (.x 7) (.bnd 39 (.x 0) (.x 6) (.ld 39 0 (.x 6) 0 [true, false, false, false, true, true, true, true, false, true] (.bnd 39 (.x 1) (.x 6) (.ld 39 1 (.x 6) 0 [true, false, false, false, true, true, true, true, false, true] (.call 3020 [.x 8, .x 9, .x 10, .x 11, .x 12, .x 13, .x 14, .x 15, .x 16, .x 17, .x 18, .x 19, .x 20, .x 21, .x 22, .x 23, .x 24, .x 25, .x 26, .x 27] (.un .not (.x 28) (.br (.x 29) (.out (.fin 0 [.c (.bool false)])) (.bin .add 3 (.x 6) (.c (.int .i64 1)) (.again [.x 30])))) (.stop 40) (.stop 40)))))) (.out (.fin 0 [.c (.bool true)])))
def tr3018 : FT := .len false (.x 0) (.len false (.x 1) (.bin .neq 3 (.x 2) (.x 3) (.br (.x 4) (.fin 0 [.c (.bool false)]) (.len false (.x 0) (.loop [.c (.int .i64 0)] tr3018_b1)))))
theorem eq3018 (hand : FunT) (ρ : List D) : ML prg hand 3018 ρ = finO (dentL theTabs (ML prg hand) tr3018 ρ) := ML_tree (by kernel_rfl) ρ
def tr3019 : FT := .bin .eql 5 (.x 0) (.x 5) (.br (.x 10) (.bin .eql 9 (.x 1) (.x 6) (.br (.x 11) (.bin .eql 3 (.x 3) (.x 8) (.br (.x 12) (.bin .eql 3 (.x 4) (.x 9) (.br (.x 13) (.call 3016 [.x 2, .x 7] (.fin 0 [.x 14]) (.stop 40) (.stop 40)) (.fin 0 [.c (.bool false)]))) (.fin 0 [.c (.bool false)]))) (.fin 0 [.c (.bool false)]))) (.fin 0 [.c (.bool false)]))
theorem eq3019 (hand : FunT) (ρ : List D) : ML prg hand 3019 ρ = finO (dentL theTabs (ML prg hand) tr3019 ρ) := ML_tree (by kernel_rfl) ρ
def tr3020 : FT := .bin .eql 9 (.x 0) (.x 10) (.br (.x 20) (.call 3015 [.x 1, .x 11] (.br (.x 21) (.call 3015 [.x 2, .x 12] (.br (.x 22) (.call 3015 [.x 3, .x 13] (.br (.x 23) (.call 3013 [.x 4, .x 5, .x 6, .x 7, .x 8, .x 14, .x 15, .x 16, .x 17, .x 18] (.fin 0 [.x 24]) (.stop 40) (.stop 40)) (.fin 0 [.c (.bool false)])) (.stop 40) (.stop 40)) (.fin 0 [.c (.bool false)])) (.stop 40) (.stop 40)) (.fin 0 [.c (.bool false)])) (.stop 40) (.stop 40)) (.fin 0 [.c (.bool false)]))
theorem eq3020 (hand : FunT) (ρ : List D) : ML prg hand 3020 ρ = finO (dentL theTabs (ML prg hand) tr3020 ρ) := ML_tree (by kernel_rfl) ρ
def tr3021 : FT := .call 3017 [.x 0, .x 2] (.br (.x 4) (.call 3018 [.x 1, .x 3] (.fin 0 [.x 5]) (.stop 40) (.stop 40)) (.fin 0 [.c (.bool false)])) (.stop 40) (.stop 40)
theorem eq3021 (hand : FunT) (ρ : List D) : ML prg hand 3021 ρ = finO (dentL theTabs (ML prg hand) tr3021 ρ) := ML_tree (by kernel_rfl) ρ
def tr3022_b1 : FT := .len false (.x 2) (.bin .lss 3 (.x 17) (.x 18) (.br (.x 19) (.bnd 45 (.x 2) (.x 17) (.ld 45 2 (.x 17) 0 [true, true] (.bnd 45 (.x 7) (.x 17) (.ld 45 7 (.x 17) 0 [true, true] (.eqs 45 true [.x 20, .x 21] [.x 22, .x 23] (.br (.x 24) (.out (.fin 0 [.c (.bool false)])) (.bin .add 3 (.x 17) (.c (.int .i64 1)) (.again [.x 25])))))))) (.out (.fin 0 [.c (.bool true)]))))
def tr3022 : FT := .bin .neq 5 (.x 0) (.x 5) (.br (.x 10) (.fin 0 [.c (.bool false)]) (.bin .neq 9 (.x 1) (.x 6) (.br (.x 11) (.fin 0 [.c (.bool false)]) (.bin .neq 3 (.x 3) (.x 8) (.br (.x 12) (.fin 0 [.c (.bool false)]) (.bin .neq 3 (.x 4) (.x 9) (.br (.x 13) (.fin 0 [.c (.bool false)]) (.len false (.x 2) (.len false (.x 7) (.bin .neq 3 (.x 14) (.x 15) (.br (.x 16) (.fin 0 [.c (.bool false)]) (.loop [.c (.int .i64 0)] tr3022_b1))))))))))))
theorem eq3022 (hand : FunT) (ρ : List D) : ML prg hand 3022 ρ = finO (dentL theTabs (ML prg hand) tr3022 ρ) := ML_tree (by kernel_rfl) ρ
def tr3023_b1 : FT := .len false (.x 0) (.bin .lss 3 (.x 5) (.x 6) (.br (.x 7) (.bnd 3 (.x 0) (.x 5) (.ld 3 0 (.x 5) 0 [true] (.bnd 3 (.x 1) (.x 5) (.ld 3 1 (.x 5) 0 [true] (.bin .neq 3 (.x 8) (.x 9) (.br (.x 10) (.out (.fin 0 [.c (.bool false)])) (.bin .add 3 (.x 5) (.c (.int .i64 1)) (.again [.x 11])))))))) (.out (.fin 0 [.c (.bool true)]))))
def tr3023 : FT := .len false (.x 0) (.len false (.x 1) (.bin .neq 3 (.x 2) (.x 3) (.br (.x 4) (.fin 0 [.c (.bool false)]) (.loop [.c (.int .i64 0)] tr3023_b1))))
theorem eq3023 (hand : FunT) (ρ : List D) : ML prg hand 3023 ρ = finO (dentL theTabs (ML prg hand) tr3023 ρ) := ML_tree (by kernel_rfl) ρ
def tr3024_b1 : FT := .len false (.x 4) (.bin .lss 3 (.x 17) (.x 18) (.br (.x 19) (.bnd 37 (.x 4) (.x 17) (.ld 37 4 (.x 17) 0 [true, true, true, true, false] (.bnd 37 (.x 9) (.x 17) (.ld 37 9 (.x 17) 0 [true, true, true, true, false] (.call 3024 [.x 20, .x 21, .x 22, .x 23, .x 24, .x 25, .x 26, .x 27, .x 28, .x 29] (.un .not (.x 30) (.br (.x 31) (.out (.fin 0 [.c (.bool false)])) (.bin .add 3 (.x 17) (.c (.int .i64 1)) (.again [.x 32])))) (.stop 40) (.stop 40)))))) (.out (.fin 0 [.c (.bool true)]))))
def tr3024 : FT := .bin .neq 5 (.x 0) (.x 5) (.br (.x 10) (.fin 0 [.c (.bool false)]) (.bin .neq 3 (.x 1) (.x 6) (.br (.x 11) (.fin 0 [.c (.bool false)]) (.bin .neq 2 (.x 2) (.x 7) (.br (.x 12) (.fin 0 [.c (.bool false)]) (.bin .neq 9 (.x 3) (.x 8) (.br (.x 13) (.fin 0 [.c (.bool false)]) (.len false (.x 4) (.len false (.x 9) (.bin .neq 3 (.x 14) (.x 15) (.br (.x 16) (.fin 0 [.c (.bool false)]) (.loop [.c (.int .i64 0)] tr3024_b1))))))))))))
theorem eq3024 (hand : FunT) (ρ : List D) : ML prg hand 3024 ρ = finO (dentL theTabs (ML prg hand) tr3024 ρ) := ML_tree (by kernel_rfl) ρ
def tr3025_b2 : FT := .len false (.x 1) (.bin .lss 3 (.x 13) (.x 14) (.br (.x 15) (.bnd 39 (.x 1) (.x 13) (.ld 39 1 (.x 13) 0 [true, false, false, false, true, true, true, true, false, true] (.bnd 39 (.x 3) (.x 13) (.ld 39 3 (.x 13) 0 [true, false, false, false, true, true, true, true, false, true] (.bin .neq 9 (.x 16) (.x 26) (.br (.x 36) (.out (.fin 0 [.c (.bool false)])) (.call 3023 [.x 17, .x 27] (.un .not (.x 37) (.br (.x 38) (.out (.fin 0 [.c (.bool false)])) (.call 3023 [.x 18, .x 28] (.un .not (.x 39) (.br (.x 40) (.out (.fin 0 [.c (.bool false)])) (.call 3023 [.x 19, .x 29] (.un .not (.x 41) (.br (.x 42) (.out (.fin 0 [.c (.bool false)])) (.call 3024 [.x 20, .x 21, .x 22, .x 23, .x 24, .x 30, .x 31, .x 32, .x 33, .x 34] (.un .not (.x 43) (.br (.x 44) (.out (.fin 0 [.c (.bool false)])) (.bin .add 3 (.x 13) (.c (.int .i64 1)) (.again [.x 45])))) (.stop 40) (.stop 40)))) (.stop 40) (.stop 40)))) (.stop 40) (.stop 40)))) (.stop 40) (.stop 40)))))))) (.out (.fin 0 [.c (.bool true)]))))
def tr3025_b1 : FT := .len false (.x 0) (.bin .lss 3 (.x 10) (.x 11) (.br (.x 12) (.bnd 32 (.x 0) (.x 10) (.ld 32 0 (.x 10) 0 [true, true, false, true, true] (.bnd 32 (.x 2) (.x 10) (.ld 32 2 (.x 10) 0 [true, true, false, true, true] (.call 3022 [.x 13, .x 14, .x 15, .x 16, .x 17, .x 18, .x 19, .x 20, .x 21, .x 22] (.un .not (.x 23) (.br (.x 24) (.out (.fin 0 [.c (.bool false)])) (.bin .add 3 (.x 10) (.c (.int .i64 1)) (.again [.x 25])))) (.stop 40) (.stop 40)))))) (.out (.loop [.c (.int .i64 0)] tr3025_b2))))
def tr3025 : FT := .len false (.x 0) (.len false (.x 2) (.bin .neq 3 (.x 4) (.x 5) (.br (.x 6) (.fin 0 [.c (.bool false)]) (.len false (.x 1) (.len false (.x 3) (.bin .neq 3 (.x 7) (.x 8) (.br (.x 9) (.fin 0 [.c (.bool false)]) (.loop [.c (.int .i64 0)] tr3025_b1))))))))
theorem eq3025 (hand : FunT) (ρ : List D) : ML prg hand 3025 ρ = finO (dentL theTabs (ML prg hand) tr3025 ρ) := ML_tree (by kernel_rfl) ρ
def tr3026 : FT := .call 3002 [.x 0, .x 1, .c (.int .i64 5000)] (.un .not (.x 4) (.br (.x 5) (.fin 0 [.c (.bool true)]) (.call 3002 [.x 2, .x 3, .c (.int .i64 5000)] (.un .not (.x 6) (.br (.x 7) (.fin 0 [.c (.bool true)]) (.call 3011 [.x 0, .x 1] (.call 3011 [.x 2, .x 3] (.call 3021 [.x 8, .x 9, .x 10, .x 11] (.call 3025 [.x 0, .x 1, .x 2, .x 3] (.bin .eql 4 (.x 12) (.x 13) (.br (.x 14) (.call 3021 [.x 10, .x 11, .x 8, .x 9] (.call 3025 [.x 0, .x 1, .x 2, .x 3] (.bin .eql 4 (.x 15) (.x 16) (.br (.x 17) (.call 3021 [.x 8, .x 9, .x 8, .x 9] (.br (.x 18) (.call 3012 [.x 8, .x 9, .x 0, .x 1] (.br (.x 19) (.call 3030 [] (.fin 0 [.x 20]) (.stop 40) (.stop 40)) (.fin 0 [.c (.bool false)])) (.stop 40) (.stop 40)) (.fin 0 [.c (.bool false)])) (.stop 40) (.stop 40)) (.fin 0 [.c (.bool false)]))) (.stop 40) (.stop 40)) (.stop 40) (.stop 40)) (.fin 0 [.c (.bool false)]))) (.stop 40) (.stop 40)) (.stop 40) (.stop 40)) (.stop 40) (.stop 40)) (.stop 40) (.stop 40)))) (.stop 40) (.stop 40)))) (.stop 40) (.stop 40)
theorem eq3026 (hand : FunT) (ρ : List D) : ML prg hand 3026 ρ = finO (dentL theTabs (ML prg hand) tr3026 ρ) := ML_tree (by kernel_rfl) ρ
end X
end Go.Proofs.YtmjmpaceopipbaaGreat
namespace Go.Proofs.YtmjmpaceopipbaaGreat
namespace X
open Go Go.Proofs B Go.ChangeShapes Go.WideShapes Go.ChangeAt Go.RowKit Go.ChangeMaps
abbrev dI (k : IntKind) (n : Int) : D := .v (.int k n)
abbrev dB (b : Bool) : D := .v (.bool b)
abbrev dS (s : ByteArray) : D := .v (.string s)
theorem bEqU8 (a b : Int) : binD theTabs .eql 5 (.v (.int .u8 a)) (.v (.int .u8 b)) = some (.v (.bool (decide (a = b)))) := by kernel_rfl
theorem bNeU8 (a b : Int) : binD theTabs .neq 5 (.v (.int .u8 a)) (.v (.int .u8 b)) = some (.v (.bool (!decide (a = b)))) := by kernel_rfl
theorem bEqI (a b : Int) : binD theTabs .eql 3 (.v (.int .i64 a)) (.v (.int .i64 b)) = some (.v (.bool (decide (a = b)))) := by kernel_rfl
theorem bNeI (a b : Int) : binD theTabs .neq 3 (.v (.int .i64 a)) (.v (.int .i64 b)) = some (.v (.bool (!decide (a = b)))) := by kernel_rfl
theorem bLtI (a b : Int) : binD theTabs .lss 3 (.v (.int .i64 a)) (.v (.int .i64 b)) = some (.v (.bool (decide (a < b)))) := by kernel_rfl
theorem bLeI (a b : Int) : binD theTabs .leq 3 (.v (.int .i64 a)) (.v (.int .i64 b)) = some (.v (.bool (decide (a ≤ b)))) := by kernel_rfl
theorem bGeI (a b : Int) : binD theTabs .geq 3 (.v (.int .i64 a)) (.v (.int .i64 b)) = some (.v (.bool (decide (a ≥ b)))) := by kernel_rfl
theorem bGtI (a b : Int) : binD theTabs .gtr 3 (.v (.int .i64 a)) (.v (.int .i64 b)) = some (.v (.bool (decide (a > b)))) := by kernel_rfl
theorem bAddI {a b : Int} {w : Int} (h : IntKind.wrap .i64 (a + b) = w) : binD theTabs .add 3 (.v (.int .i64 a)) (.v (.int .i64 b)) = some (.v (.int .i64 w)) := by rw [← h]; kernel_rfl
theorem bSubI {a b : Int} {w : Int} (h : IntKind.wrap .i64 (a - b) = w) : binD theTabs .sub 3 (.v (.int .i64 a)) (.v (.int .i64 b)) = some (.v (.int .i64 w)) := by rw [← h]; kernel_rfl
theorem bEqS (s u : ByteArray) : binD theTabs .eql 9 (.v (.string s)) (.v (.string u)) = some (.v (.bool (strBeq s u))) := by kernel_rfl
theorem bNeS (s u : ByteArray) : binD theTabs .neq 9 (.v (.string s)) (.v (.string u)) = some (.v (.bool (!strBeq s u))) := by kernel_rfl
theorem uNot (p : Bool) : unD .not (.v (.bool p)) = some (.v (.bool (!p))) := by kernel_rfl
theorem brB {α : Type} (p : Bool) (a b : Option α) : brD (.v (.bool p)) a b = if p then a else b := by cases p <;> rfl
theorem minI (k k' : IntKind) (a b : Int) : minD (.v (.int k a)) (.v (.int k' b)) = some (.v (.int k (if b < a then b else a))) := rfl
theorem lenS (s : ByteArray) : lenD true (.v (.string s)) = some (.v (.int .i64 s.data.toList.length)) := rfl
theorem wrap_i64 {n : Int} (h0 : -9223372036854775808 ≤ n) (h1 : n < 9223372036854775808) : IntKind.wrap .i64 n = n := IntWalk.i64_in _ (by omega)
theorem finO_fin (k : Nat) (vs : List D) : finO (some (.fin k vs)) = some (k, vs) := rfl
theorem finO_ite {p : Prop} [Decidable p] (a b : Option Out) : finO (if p then a else b) = if p then finO a else finO b := by split <;> rfl
def wrapE (e : Nat) : Option (List D) → List D → D
 | none, [] => .v (.slice none 0 0)
 | none, d :: l => .sl e (d :: l) []
 | some x, l => .sl e l x
inductive KG (e : Nat) : List D → D → Prop
 | nil : KG e [] (.v (.slice none 0 0))
 | sl (l x : List D) : KG e l (.sl e l x)
theorem KG_wrap (e : Nat) (sp : Option (List D)) (l : List D) : KG e l (wrapE e sp l) := by
 cases sp with
 | some x => exact .sl l x
 | none => cases l with
  | nil => exact .nil
  | cons t l => exact .sl _ _
section
variable {e : Nat} {l : List D} {d : D}
theorem lenG (h : KG e l d) : lenD false d = some (.v (.int .i64 l.length)) := by cases h <;> rfl
theorem bndG (h : KG e l d) {i : Nat} (hi : i < l.length) : bndD e d (.v (.int .i64 (i : Int))) = true := by
 cases h with
 | nil => simp at hi
 | sl l x => show (Nat.beq e e && Nat.blt i l.length) = true; simp [Nat.blt]; omega
theorem ldG (h : KG e l d) {i : Nat} {c : D} (hc : l[i]? = some c) {o : Nat} {fl : List Bool} {r : List D} (hr : (c.cells.drop o).take fl.length = r) (hf : flOk fl r = true) : ldD e d i o fl = some r := by
 subst hr
 cases h with
 | nil => simp at hc
 | sl l x => unfold ldD; dsimp only; rw [hc]; dsimp only; rw [hf]; simp
theorem lslG {x : List D} {n : Nat} (h : n ≤ (l ++ x).length) : lslD e (.sl e l x) none (some (.v (.int .i64 (n : Int)))) = some (.sl e ((l ++ x).take n) ((l ++ x).drop n)) := by
 unfold lslD
 dsimp only [boundD, Option.bind_some, natD]
 rw [if_pos (by omega)]
 dsimp only [Option.bind_some]
 rw [Int.toNat_natCast]
 have h1 : (Nat.beq e e && Nat.ble 0 n && Nat.ble n (l ++ x).length) = true := by simp [Nat.ble_eq] at *; omega
 rw [h1, cond_true]; simp
end
theorem appG {t e : Nat} {i : TypeInfo} (hs : sliceInfo' theTabs t = some (i, e)) {l m : List D} {d : D} (h : d = .sl e l [] ∨ d = .v (.slice none 0 0) ∧ l = []) {x : List D} (hm : m ≠ []) (hb : (l.length + m.length) * i.bytes ≤ maxBytes) (hn : l.length + m.length ≤ 9223372036854775807) :
    appD theTabs t d (.sl e m x) = some (.sl e (l ++ m) []) := by
 cases m with
 | nil => exact absurd rfl hm
 | cons c m =>
 unfold appD
 rw [hs]
 rcases h with rfl | ⟨rfl, rfl⟩
 · have h1 : (Nat.beq e e && Nat.beq e e && Nat.ble (l.length + (c :: m).length) 9223372036854775807 && Nat.ble ((l.length + (c :: m).length) * i.bytes) maxBytes) = true := by
    rw [Nat.ble_eq_true_of_le hn, Nat.ble_eq_true_of_le hb]; simp
   show cond (Nat.beq e e && Nat.beq e e && Nat.ble (l.length + (c :: m).length) 9223372036854775807 && Nat.ble ((l.length + (c :: m).length) * i.bytes) maxBytes) (some (D.sl e (l ++ (c :: m)) [])) none = _
   rw [h1]; rfl
 · have h1 : (Nat.beq e e && Nat.ble (c :: m).length 9223372036854775807 && Nat.ble ((c :: m).length * i.bytes) maxBytes) = true := by
    rw [Nat.ble_eq_true_of_le (by simpa using hn), Nat.ble_eq_true_of_le (by simpa using hb)]; simp
   show cond (Nat.beq e e && Nat.ble (c :: m).length 9223372036854775807 && Nat.ble ((c :: m).length * i.bytes) maxBytes) (some (D.sl e (c :: m) [])) none = _
   rw [h1]; rfl
def outE (e : Nat) : List D → D
 | [] => .v (.slice none 0 0)
 | d :: l => .sl e (d :: l) []
theorem outE_or (e : Nat) (l : List D) : outE e l = .sl e l [] ∨ outE e l = .v (.slice none 0 0) ∧ l = [] := by cases l; exact .inr ⟨rfl, rfl⟩; exact .inl rfl
theorem outE_cons {e : Nat} {l : List D} (h : l ≠ []) : outE e l = .sl e l [] := by cases l; exact absurd rfl h; rfl
theorem outE_KG (e : Nat) (l : List D) : KG e l (outE e l) := by cases l; exact .nil; exact .sl _ _
def szE (t e b : Nat) : Prop := (sliceInfo' theTabs t).map (fun x => (x.1.bytes, x.2)) = some (b, e)
theorem app_out {t e b : Nat} (hs : szE t e b) {l m x : List D} (hm : m ≠ []) (hb : (l.length + m.length) * b ≤ 140737488355328) (hn : l.length + m.length ≤ 9223372036854775807) : appD theTabs t (outE e l) (.sl e m x) = some (.sl e (l ++ m) []) := by
 obtain ⟨⟨i, e'⟩, h1, h2⟩ := Option.map_eq_some_iff.1 hs
 simp only [Prod.mk.injEq] at h2
 obtain ⟨rfl, rfl⟩ := h2
 exact appG h1 (outE_or _ l) hm (by unfold maxBytes; exact hb) hn
theorem app_all {t e b : Nat} (hs : szE t e b) {m : List D} {d : D} (h : KG e m d) (hb : m.length * b ≤ 140737488355328) (hn : m.length ≤ 9223372036854775807) : appD theTabs t (.v (.slice none 0 0)) d = some (outE e m) := by
 obtain ⟨⟨i, e'⟩, h1, h2⟩ := Option.map_eq_some_iff.1 hs
 cases h with
 | nil => unfold appD; rw [h1]; rfl
 | sl l x =>
  cases m with
  | nil => unfold appD; rw [h1]; rfl
  | cons c m => exact app_out hs (l := []) (by simp) (by simpa using hb) (by simpa using hn)
theorem iterL_inv {f : List D → Option Out} {I : Nat → List D → Prop} {Q : Out → Prop} (n : Nat) {v0 : List D} (h0 : I 0 v0)
    (hs : ∀ i v, I i v → (∃ v', f v = some (.again v') ∧ I (i + 1) v' ∧ i < n) ∨ ∃ o, f v = some (.done o) ∧ Q o) : ∃ o, iterL f v0 = some o ∧ Q o := by
 have : ∀ k i v, I i v → n ≤ i + k → ∃ o, iterL f v = some o ∧ Q o := by
  intro k
  induction k with
  | zero =>
   intro i v hI hn
   rcases hs i v hI with ⟨_, _, _, h⟩ | ⟨o, h, hq⟩
   · omega
   · exact ⟨o, by rw [iterL_eq, h], hq⟩
  | succ k ih =>
   intro i v hI hn
   rcases hs i v hI with ⟨v', h1, h2, h⟩ | ⟨o, h, hq⟩
   · rw [iterL_eq, h1]; exact ih (i + 1) v' h2 (by omega)
   · exact ⟨o, by rw [iterL_eq, h], hq⟩
 exact this n 0 v0 h0 (by omega)
theorem iterL_count {f : List D → Option Out} {o : Out} (n : Nat) (g : Nat → List D) (hs : ∀ i, i < n → f (g i) = some (.again (g (i + 1)))) (he : f (g n) = some (.done o)) : iterL f (g 0) = some o := by
 have : ∀ k i, i + k = n → iterL f (g i) = some o := by
  intro k
  induction k with
  | zero => intro i hi; rw [iterL_eq]; have : i = n := by omega
            rw [this, he]
  | succ k ih => intro i hi; rw [iterL_eq, hs i (by omega)]; exact ih (i + 1) (by omega)
 exact this n 0 (by omega)
theorem iterL_all {α : Type} {f : List D → Option Out} {oF oT : Out} (l : List α) (p : α → Bool) (g : Nat → List D)
    (hs : ∀ i a, l[i]? = some a → f (g i) = if p a then some (.again (g (i + 1))) else some (.done oF)) (he : f (g l.length) = some (.done oT)) : iterL f (g 0) = some (if l.all p then oT else oF) := by
 have : ∀ (m : List α) (i : Nat), i ≤ l.length → l.drop i = m → iterL f (g i) = some (if m.all p then oT else oF) := by
  intro m
  induction m with
  | nil =>
   intro i hl hi
   rw [List.drop_eq_nil_iff] at hi
   rw [iterL_eq]
   have h : i = l.length := by omega
   rw [h, he]; rfl
  | cons a m ih =>
   intro i hl hi
   have hg : l[i]? = some a := by
    have : (l.drop i)[0]? = some a := by rw [hi]; rfl
    simpa using this
   rw [iterL_eq, hs i a hg]
   cases hp : p a with
   | true =>
    simp only [if_true, List.all_cons, hp, Bool.true_and]
    refine ih (i + 1) (List.getElem?_eq_some_iff.1 hg).1 ?_
    rw [← List.tail_drop, hi]; rfl
   | false => simp [hp]
 exact this l 0 (Nat.zero_le _) rfl
theorem dentL_loop (T : Tabs) (F : FunT) (vs : List SV) (body : FT) (δ : List D) : dentL T F (.loop vs body) δ = iterL (fun v => dentL T F body (δ ++ v)) (vs.map (dv δ)) := by rw [dentL]
theorem addA_zero (a : Addr) : addA a 0 = a := by cases a; simp [addA]
theorem addA_addA (a : Addr) (i j : Nat) : addA (addA a i) j = addA a (i + j) := by simp only [addA]; congr 1; omega
theorem readN_add {H : AHeap} : ∀ (n m : Nat) (a : Addr) (v w : List Value), H.readN a n = some v → H.readN (addA a n) m = some w → H.readN a (n + m) = some (v ++ w)
 | 0, m, a, v, w, h, g => by
  simp only [AHeap.readN, Option.some.injEq] at h
  subst h
  rw [addA_zero] at g
  rw [Nat.zero_add, List.nil_append]; exact g
 | n + 1, m, a, v, w, h, g => by
  rw [Nat.add_right_comm]
  unfold AHeap.readN at h ⊢
  split at h
  case h_2 => cases h
  rename_i u hu
  split at h
  case h_2 => cases h
  rename_i us hus
  simp only [Option.some.injEq] at h
  subst h
  have := readN_add n m (addA a 1) us w hus (by rw [addA_addA, Nat.add_comm 1 n]; exact g)
  rw [this]; rfl
theorem flat_read {H : AHeap} {a : Addr} {k : Nat} (f : Nat → List Value) : ∀ n, (∀ i, i < n → H.readN (addA a (i * k)) k = some (f i)) → H.readN a (n * k) = some ((List.range n).flatMap f)
 | 0, _ => by rw [Nat.zero_mul]; rfl
 | n + 1, h => by
  rw [Nat.succ_mul, List.range_succ, List.flatMap_append]
  refine readN_add _ _ _ _ _ (flat_read f n fun i hi => h i (by omega)) ?_
  rw [h n (by omega)]; simp
section
variable {T : Tabs} {H : AHeap} {A : Nat → Prop}
theorem Rs_app : ∀ {l : List D} {v : List Value} {m : List D} {w : List Value}, Rs T H A l v → Rs T H A m w → Rs T H A (l ++ m) (v ++ w)
 | _, _, _, _, .nil, g => g
 | _, _, _, _, .cons h g, k => .cons h (Rs_app g k)
theorem flat_rel (t : Nat → D) (f : Nat → List Value) : ∀ l : List Nat, (∀ i, i ∈ l → Rs T H A (t i).cells (f i)) → Rs T H A (flatD (l.map t)) (l.flatMap f)
 | [], _ => .nil
 | i :: l, h => by
  rw [List.map_cons, flatD, List.flatMap_cons, List.flatMap_cons]
  exact Rs_app (h i (by simp)) (flat_rel t f l fun j hj => h j (by simp [hj]))
end
section
variable {H : Type} {enc : TypeId × Value → H} {W : World} {base : Nat} {held : Bool} {A : Nat → Prop}
abbrev Cin (W : World) (A : Nat → Prop) (ds : List D) (cs : List Value) : Prop := Rs theTabs (heapOf W) A ds (cs.map (fixV W)) ∧ ∀ v, v ∈ cs → VRel (embOf W) (fixV W v) v
theorem Cin.nil : Cin W A [] [] := ⟨.nil, fun _ h => by simp at h⟩
theorem Cin.cons {d : D} {v : Value} {ds : List D} {cs : List Value} (h : R theTabs (heapOf W) A d (fixV W v)) (g : VRel (embOf W) (fixV W v) v) (k : Cin W A ds cs) : Cin W A (d :: ds) (v :: cs) :=
 ⟨.cons h k.1, fun u hu => by rcases List.mem_cons.1 hu with rfl | hu; exact g; exact k.2 u hu⟩
theorem Cin.v {v : Value} {ds : List D} {cs : List Value} (h : closedV v = true) (f : flatV v = true) (k : Cin W A ds cs) : Cin W A (.v v :: ds) (v :: cs) :=
 k.cons (by rw [fixV_of (.closed h)]; exact .v h f) (by rw [fixV_of (.closed h)]; exact .closed h)
theorem Cin.app {ds ds' : List D} {cs cs' : List Value} (h : Cin W A ds cs) (g : Cin W A ds' cs') : Cin W A (ds ++ ds') (cs ++ cs') :=
 ⟨by rw [List.map_append]; exact Rs_app h.1 g.1, fun u hu => by rcases List.mem_append.1 hu with hu | hu; exact h.2 u hu; exact g.2 u hu⟩
abbrev Wok (t : TypeId) (d : DataW H) : Prop := ∀ w, w ∈ DataW.weights Tryz.prog t d → w ≤ reachBytes
theorem wAll_mem {P : Program} {e : TypeId} {w : Nat} : ∀ {l : List (DataW H)} {d : DataW H}, d ∈ l → w ∈ d.weights P e → w ∈ DataW.weightsAll P e l
 | [], _, h, _ => by cases h
 | c :: l, d, h, g => by
  rw [DataW.weightsAll, List.mem_append]
  rcases List.mem_cons.1 h with rfl | h
  · exact .inl g
  · exact .inr (wAll_mem h g)
theorem wEach_get {P : Program} {w : Nat} : ∀ {ts : List TypeId} {ds : List (DataW H)} {i : Nat} {t : TypeId} {d : DataW H}, ts[i]? = some t → ds[i]? = some d → w ∈ d.weights P t → w ∈ DataW.weightsEach P ts ds
 | [], _, _, _, _, h, _, _ => by simp at h
 | _ :: _, [], _, _, _, _, h, _ => by simp at h
 | t :: ts, d :: ds, 0, _, _, h, g, k => by
  simp only [List.getElem?_cons_zero, Option.some.injEq] at h g
  subst h; subst g
  rw [DataW.weightsEach, List.mem_append]; exact .inl k
 | t :: ts, d :: ds, i + 1, _, _, h, g, k => by
  simp only [List.getElem?_cons_succ] at h g
  rw [DataW.weightsEach, List.mem_append]; exact .inr (wEach_get h g k)
theorem Wok.field {t : TypeId} {fs : Array Field} {parts : List (DataW H)} (hu : Tryz.prog.underlying t = some (.struct fs)) (h : Wok t (.agg parts)) {i : Nat} {f : Field} {d : DataW H} (hf : fs[i]? = some f) (hd : parts[i]? = some d) : Wok f.type d := by
 intro w hw
 refine h w ?_
 rw [DataW.weights, hu]
 exact wEach_get (i := i) (by rw [List.getElem?_map, Array.getElem?_toList, hf]; rfl) hd hw
theorem slice_in {α : Type} [Inhabited α] (hA : ∀ b, A b) (dOf : α → D) (Q : α → Prop) {e c ts : Nat} (hc : Tryz.prog.cellsOf e = c) (hc0 : 0 < c) (hi0 : (theTabs.info e).map (·.size) = some c) (hu : Tryz.prog.underlying ts = some (.slice e))
    {n : Nat} {v : Value} {x : DataW H × List MemPlace} (h : DataW.trod enc Tryz.prog W base (fun _ => true) held n ts [v] = some x) (hw : Wok ts x.1)
    (hel : ∀ (m : Nat) (cs : List Value) (x : DataW H × List MemPlace), m < n → DataW.trod enc Tryz.prog W base (fun _ => true) held m e cs = some x → Wok e x.1 → ∃ t : α, Q t ∧ (dOf t).cells.length = c ∧ cs.length = c ∧ Cin W A (dOf t).cells cs) :
    ∃ (sp : Option (List D)) (l : List α), (∀ t, t ∈ l → Q t) ∧ l.length * Tryz.prog.bytesOf e ≤ reachBytes ∧ R theTabs (heapOf W) A (wrapE e sp (l.map dOf)) (fixV W v) ∧ VRel (embOf W) (fixV W v) v := by
 rcases DataW.trod_slice hu h with ⟨e0, _⟩ | ⟨ad, len, cap, elems, rest, n'', rfl, e0, rfl, hb, hlc, hcap, hel0, hE, hR, _⟩
 · simp only [List.cons.injEq, and_true] at e0
   subst e0
   have f4 : fixV W (.slice none 0 0) = .slice none 0 0 := fixV_of (.closed rfl)
   exact ⟨none, [], by simp, by simp, by rw [f4]; exact .v rfl rfl, by rw [f4]; exact .closed rfl⟩
 · simp only [List.cons.injEq, and_true] at e0
   subst e0
   rw [hc] at hE hR
   have hw1 : (elems.length + rest.length) * Tryz.prog.bytesOf e ≤ reachBytes := hw _ (by rw [DataW.weights, hu]; dsimp only; rw [List.length_map, List.length_map]; exact List.mem_cons_self)
   have hw2 : ∀ y, y ∈ elems → Wok e y.1 := fun y hy w hw3 => hw w (by
    rw [DataW.weights, hu]; dsimp only
    exact List.mem_cons_of_mem _ (List.mem_append_left _ (wAll_mem (List.mem_map_of_mem hy) hw3)))
   have hw4 : len * Tryz.prog.bytesOf e ≤ reachBytes := Nat.le_trans (Nat.mul_le_mul_right _ (by omega)) hw1
   unfold maxLen at hcap
   rcases Nat.eq_zero_or_pos cap with hc1 | hc1
   · subst hc1
     obtain rfl : len = 0 := by omega
     obtain ⟨c, hc⟩ := fixV_empty_eq W ad
     refine ⟨some [], [], by simp, by simp, ?_, fixV_empty⟩
     rw [hc]; exact .nil
   have hrow : ad.spot = none ∧ isRow W ad.block = true := by
    have : ∃ cs, W.cells? base (ad.add 0) c = some cs := by
     rcases Nat.eq_zero_or_pos len with hl0 | hl0
     · subst hl0
       obtain ⟨hr1, hr2⟩ := hR rfl
       have h1 := hr2 0 (by omega)
       rw [List.getElem?_eq_getElem (by omega), Option.bind_eq_some_iff] at h1
       obtain ⟨cs, h2, _⟩ := h1
       exact ⟨cs, by simpa using h2⟩
     · have h1 := hE 0 hl0
       rw [List.getElem?_eq_getElem (by omega), Option.bind_eq_some_iff] at h1
       obtain ⟨cs, h2, _⟩ := h1
       exact ⟨cs, by simpa using h2⟩
    obtain ⟨cs, hcs⟩ := this
    obtain ⟨h1, h2⟩ := cells?_at hcs
    have h3 := h2 0 (cs[0]'(by omega)) (List.getElem?_eq_getElem (by omega))
    have h4 := cell_isRow h3
    simpa [Addr.add] using h4
   obtain ⟨hsp, hir⟩ := hrow
   have hg := good_slice hsp hir hlc
   have f4 := fixV_of hg
   have hv4 : VRel (embOf W) (fixV W (.slice (some ad) len cap)) (.slice (some ad) len cap) := by rw [f4]; exact hg
   rcases Nat.eq_zero_or_pos len with hl0 | hl0
   · subst hl0
     exact ⟨some [], [], by simp, by simp, by rw [f4]; exact .nil, hv4⟩
   have hel1 : ∀ i, i < len → ∃ (cs : List Value) (t : α), Q t ∧ (dOf t).cells.length = c ∧ cs.length = c ∧ W.cells? base (ad.add (i * c)) c = some cs ∧ Cin W A (dOf t).cells cs := by
    intro i hi
    have h1 := hE i hi
    rw [List.getElem?_eq_getElem (by omega), Option.bind_eq_some_iff] at h1
    obtain ⟨cs, h2, h3⟩ := h1
    obtain ⟨t, g1, g2, g3, g4⟩ := hel n'' cs _ (by omega) h3 (hw2 _ (List.getElem_mem _))
    exact ⟨cs, t, g1, g2, g3, h2, g4⟩
   obtain ⟨fc, ft, hft⟩ : ∃ (fc : Nat → List Value) (ft : Nat → α), ∀ i, i < len → Q (ft i) ∧ (dOf (ft i)).cells.length = c ∧ (fc i).length = c ∧ W.cells? base (ad.add (i * c)) c = some (fc i) ∧ Cin W A (dOf (ft i)).cells (fc i) := by
    refine ⟨fun i => if h : i < len then (hel1 i h).choose else [], fun i => if h : i < len then (hel1 i h).choose_spec.choose else default, fun i hi => ?_⟩
    dsimp only
    rw [dif_pos hi, dif_pos hi]
    exact (hel1 i hi).choose_spec.choose_spec
   have hread : (heapOf W).readN ad (len * c) = some ((List.range len).flatMap fun i => (fc i).map (fixV W)) := by
    refine flat_read _ len fun i hi => ?_
    obtain ⟨_, _, g2, g3, g5⟩ := hft i hi
    obtain ⟨h1, h2⟩ := cells?_at g3
    have hsp' : (addA ad (i * c)).spot = none := hsp
    refine heapOf_readF (a := addA ad (i * c)) hsp' g2 fun j v hj => ?_
    have h3 := h2 j v hj
    rw [addA_add' hsp, addA_add' hsp'] at h3
    exact ⟨h3, g5.2 v (List.mem_of_getElem? hj)⟩
   have hrel := flat_rel (T := theTabs) (H := heapOf W) (A := A) (fun i => dOf (ft i)) (fun i => (fc i).map (fixV W)) (List.range len) fun i hi => (hft i (List.mem_range.1 hi)).2.2.2.2.1
   have hll : ((List.range len).map ft).length = len := by simp
   refine ⟨some [], (List.range len).map ft, fun t ht => ?_, by rw [hll]; exact hw4, ?_, hv4⟩
   · obtain ⟨i, hi, rfl⟩ := List.mem_map.1 ht
     exact (hft i (List.mem_range.1 hi)).1
   · rw [f4]
     obtain ⟨inf, hi, hsz⟩ := Option.map_eq_some_iff.1 hi0
     obtain ⟨c', e', fz, hcl⟩ := isRow_some hir
     have hmm : ((List.range len).map ft).map dOf = (List.range len).map fun i => dOf (ft i) := by rw [List.map_map]; rfl
     have hcl2 : (((List.range len).map ft).map dOf).length = len := by rw [List.length_map, hll]
     refine R.sl (x := []) (vs := (List.range len).flatMap fun i => (fc i).map (fixV W)) hi ?_ (by rw [hsz]; omega) (hA _) ?_ ?_ ?_ ?_ hcl2.symm ?_
     · intro h0
       rw [List.append_nil] at h0
       rw [h0] at hcl2
       simp at hcl2; omega
     · rw [List.append_nil, hcl2, hsz, hread]
     · intro d hd
       rw [List.append_nil, hmm] at hd
       obtain ⟨i, hi, rfl⟩ := List.mem_map.1 hd
       rw [hsz]; exact (hft i (List.mem_range.1 hi)).2.1
     · rw [List.append_nil, hmm]; exact hrel
     · unfold AHeap.elemOk
       rw [heapOf_view hcl]; rfl
     · rw [List.append_nil, hcl2]; exact hlc
end
end X
end Go.Proofs.YtmjmpaceopipbaaGreat
namespace Go.Proofs.YtmjmpaceopipbaaGreat
namespace X
open Go Go.Proofs B Go.ChangeShapes Go.WideShapes Go.ChangeAt Go.RowKit Go.ChangeMaps
structure Fld where
 n : ByteArray
 t : Int
def Fld.cells (f : Fld) : List D := [dS f.n, dI .i64 f.t]
def Fld.d (f : Fld) : D := .ag f.cells
structure Typ where
 k : Int
 n : ByteArray
 fp : Option (List D)
 fs : List Fld
 el : Int
 ln : Int
def Typ.cells (t : Typ) : List D := [dI .u8 t.k, dS t.n, wrapE 45 t.fp (t.fs.map Fld.d), dI .i64 t.el, dI .i64 t.ln]
def Typ.d (t : Typ) : D := .ag t.cells
inductive Tm where
 | mk (o t n : Int) (s : ByteArray) (p : Option (List D)) (l : List Tm)
mutual
def Tm.cells : Tm → List D
 | .mk o t n s p l => [dI .u8 o, dI .i64 t, dI .i64 n, dS s, wrapE 37 p (cellsT l)]
def cellsT : List Tm → List D
 | [] => []
 | t :: l => .ag t.cells :: cellsT l
end
def Tm.d (t : Tm) : D := .ag t.cells
theorem cellsT_map : ∀ l : List Tm, cellsT l = l.map Tm.d
 | [] => by rw [cellsT]; rfl
 | t :: l => by rw [cellsT, cellsT_map l]; rfl
theorem Tm.cells_len (t : Tm) : t.cells.length = 5 := by cases t; rw [Tm.cells]; rfl
mutual
theorem Tm.ind {P : Tm → Prop} (h : ∀ o t n s p l, (∀ u, u ∈ l → P u) → P (.mk o t n s p l)) : ∀ t, P t
 | .mk o t n s p l => h o t n s p l (Tm.indL h l)
theorem Tm.indL {P : Tm → Prop} (h : ∀ o t n s p l, (∀ u, u ∈ l → P u) → P (.mk o t n s p l)) : ∀ l : List Tm, ∀ u, u ∈ l → P u
 | [], u, hu => by cases hu
 | v :: l, u, hu => by
  rcases List.mem_cons.1 hu with e | hu
  · rw [e]; exact Tm.ind h v
  · exact Tm.indL h l u hu
end
structure Fnc where
 n : ByteArray
 pp : Option (List D)
 ps : List Int
 rp : Option (List D)
 rs : List Int
 sp : Option (List D)
 ss : List Int
 b : Tm
 nd : Int
def dInt (n : Int) : D := dI .i64 n
def Fnc.cells (f : Fnc) : List D := dS f.n :: wrapE 3 f.pp (f.ps.map dInt) :: wrapE 3 f.rp (f.rs.map dInt) :: wrapE 3 f.sp (f.ss.map dInt) :: (f.b.cells ++ [dI .i64 f.nd])
def Fnc.d (f : Fnc) : D := .ag f.cells
structure Pro where
 tp : Option (List D)
 ts : List Typ
 fp : Option (List D)
 fs : List Fnc
def Pro.cells (p : Pro) : List D := [wrapE 32 p.tp (p.ts.map Typ.d), wrapE 39 p.fp (p.fs.map Fnc.d)]
mutual
def Tm.fits : Tm → Prop
 | .mk _ _ _ _ _ l => l.length < 140737488355328 ∧ fitsT l
def fitsT : List Tm → Prop
 | [] => True
 | t :: l => t.fits ∧ fitsT l
end
theorem fitsT_mem : ∀ {l : List Tm} {t : Tm}, fitsT l → t ∈ l → t.fits
 | u :: l, t, h, ht => by
  rw [fitsT] at h
  rcases List.mem_cons.1 ht with e | ht
  · rw [e]; exact h.1
  · exact fitsT_mem h.2 ht
 | [], t, _, ht => by cases ht
theorem fitsT_all : ∀ {l : List Tm}, (∀ t, t ∈ l → t.fits) → fitsT l
 | [], _ => by rw [fitsT]; trivial
 | t :: l, h => by rw [fitsT]; exact ⟨h t (by simp), fitsT_all fun u hu => h u (by simp [hu])⟩
def Typ.fits (t : Typ) : Prop := t.fs.length < 140737488355328
def Fnc.fits (f : Fnc) : Prop := f.ps.length < 140737488355328 ∧ f.rs.length < 140737488355328 ∧ f.ss.length < 140737488355328 ∧ f.b.fits
def Pro.fits (p : Pro) : Prop := p.ts.length < 140737488355328 ∧ p.fs.length < 140737488355328 ∧ (∀ t, t ∈ p.ts → t.fits) ∧ ∀ f, f ∈ p.fs → f.fits
theorem len2 {α : Type} : ∀ {l : List α}, l.length = 2 → ∃ a b, l = [a, b]
 | [a, b], _ => ⟨a, b, rfl⟩
theorem len5 {α : Type} : ∀ {l : List α}, l.length = 5 → ∃ a b c d e, l = [a, b, c, d, e]
 | [a, b, c, d, e], _ => ⟨a, b, c, d, e, rfl⟩
theorem len10 {α : Type} : ∀ {l : List α}, l.length = 10 → ∃ a b c d e a' b' c' d' e', l = [a, b, c, d, e, a', b', c', d', e']
 | [a, b, c, d, e, a', b', c', d', e'], _ => ⟨a, b, c, d, e, a', b', c', d', e', rfl⟩
section
variable {H : Type} {enc : TypeId × Value → H} {W : World} {base : Nat} {held : Bool} {A : Nat → Prop}
instance : Inhabited Fld := ⟨⟨⟨#[]⟩, 0⟩⟩
instance : Inhabited Typ := ⟨⟨0, ⟨#[]⟩, none, [], 0, 0⟩⟩
instance : Inhabited Tm := ⟨.mk 0 0 0 ⟨#[]⟩ none []⟩
instance : Inhabited Fnc := ⟨⟨⟨#[]⟩, none, [], none, [], none, [], default, 0⟩⟩
theorem few {n b : Nat} (h : n * b ≤ reachBytes) (hb : 0 < b) : n < 140737488355328 := by
 have : n * 1 ≤ n * b := Nat.mul_le_mul_left _ hb
 unfold reachBytes at h
 omega
theorem ints_in (hA : ∀ b, A b) {n : Nat} {v : Value} {x : DataW H × List MemPlace} (h : DataW.trod enc Tryz.prog W base (fun _ => true) held n 34 [v] = some x) (hw : Wok 34 x.1) :
    ∃ (sp : Option (List D)) (l : List Int), l.length < 140737488355328 ∧ R theTabs (heapOf W) A (wrapE 3 sp (l.map dInt)) (fixV W v) ∧ VRel (embOf W) (fixV W v) v := by
 obtain ⟨sp, l, _, h1, h2, h3⟩ := slice_in (W := W) hA dInt (fun _ => True) cells3 (by decide) (by kernel_rfl) (und_of Tryz.underlying34) h hw (fun m cs x _ hx _ => by
  obtain ⟨k, e0, _⟩ := DataW.trod_int Tryz.underlying3 hx
  subst e0
  exact ⟨k, trivial, rfl, rfl, Cin.v rfl rfl Cin.nil⟩)
 exact ⟨sp, l, few h1 (of_decide_eq_true (by kernel_rfl)), h2, h3⟩
theorem fld_in {n : Nat} {cs : List Value} {x : DataW H × List MemPlace} (h : DataW.trod enc Tryz.prog W base (fun _ => true) held n 45 cs = some x) : ∃ f : Fld, True ∧ f.d.cells.length = 2 ∧ cs.length = 2 ∧ Cin W A f.d.cells cs := by
 obtain ⟨xs, n', rfl, hx, hl, hxl, hf⟩ := DataW.trod_struct (und_of Tryz.underlying45) h
 have hl2 : cs.length = 2 := by rw [hl, cells45]
 obtain ⟨v0, v1, rfl⟩ := len2 hl2
 have hx2 : xs.length = 2 := hxl
 have h0 : DataW.trod enc Tryz.prog W base (fun _ => true) held n' 9 ((([v0, v1] : List Value).drop 0).take (Tryz.prog.cellsOf 9)) = xs[0]? := hf 0 _ rfl
 have h1 : DataW.trod enc Tryz.prog W base (fun _ => true) held n' 3 ((([v0, v1] : List Value).drop 1).take (Tryz.prog.cellsOf 3)) = xs[1]? := hf 1 _ rfl
 rw [List.getElem?_eq_getElem (by omega)] at h0 h1
 simp only [cells9, cells3, List.drop_zero, List.drop_succ_cons, List.take_succ_cons, List.take_zero] at h0 h1
 obtain ⟨s, e0, _⟩ := DataW.trod_string Tryz.underlying9 h0
 obtain ⟨a, e1, _⟩ := DataW.trod_int Tryz.underlying3 h1
 simp only [List.cons.injEq, and_true] at e0 e1
 subst e0; subst e1
 exact ⟨⟨s, a⟩, trivial, rfl, rfl, Cin.v rfl rfl (Cin.v rfl rfl Cin.nil)⟩
theorem typ_in (hA : ∀ b, A b) {n : Nat} {cs : List Value} {x : DataW H × List MemPlace} (h : DataW.trod enc Tryz.prog W base (fun _ => true) held n 32 cs = some x) (hw : Wok 32 x.1) : ∃ t : Typ, t.fits ∧ t.d.cells.length = 5 ∧ cs.length = 5 ∧ Cin W A t.d.cells cs := by
 obtain ⟨xs, n', rfl, rfl, hl, hxl, hf⟩ := DataW.trod_struct (und_of Tryz.underlying32) h
 have hl5 : cs.length = 5 := by rw [hl, cells32]
 obtain ⟨v0, v1, v2, v3, v4, rfl⟩ := len5 hl5
 have hx5 : xs.length = 5 := hxl
 have h0 : DataW.trod enc Tryz.prog W base (fun _ => true) held n' 5 ((([v0, v1, v2, v3, v4] : List Value).drop 0).take (Tryz.prog.cellsOf 5)) = xs[0]? := hf 0 _ rfl
 have h1 : DataW.trod enc Tryz.prog W base (fun _ => true) held n' 9 ((([v0, v1, v2, v3, v4] : List Value).drop 1).take (Tryz.prog.cellsOf 9)) = xs[1]? := hf 1 _ rfl
 have h2 : DataW.trod enc Tryz.prog W base (fun _ => true) held n' 30 ((([v0, v1, v2, v3, v4] : List Value).drop 2).take (Tryz.prog.cellsOf 30)) = xs[2]? := hf 2 _ rfl
 have h3 : DataW.trod enc Tryz.prog W base (fun _ => true) held n' 3 ((([v0, v1, v2, v3, v4] : List Value).drop 3).take (Tryz.prog.cellsOf 3)) = xs[3]? := hf 3 _ rfl
 have h4 : DataW.trod enc Tryz.prog W base (fun _ => true) held n' 3 ((([v0, v1, v2, v3, v4] : List Value).drop 4).take (Tryz.prog.cellsOf 3)) = xs[4]? := hf 4 _ rfl
 have hw2 : ∀ y, xs[2]? = some y → Wok 30 y.1 := fun y hy => hw.field (und_of Tryz.underlying32) (i := 2) rfl (by rw [List.getElem?_map, hy]; rfl)
 rw [List.getElem?_eq_getElem (by omega)] at h0 h1 h2 h3 h4
 simp only [cells5, cells3, cells9, cells30, List.drop_zero, List.drop_succ_cons, List.take_succ_cons, List.take_zero] at h0 h1 h2 h3 h4
 obtain ⟨k, e0, _⟩ := DataW.trod_int Tryz.underlying5 h0
 obtain ⟨s, e1, _⟩ := DataW.trod_string Tryz.underlying9 h1
 obtain ⟨a, e3, _⟩ := DataW.trod_int Tryz.underlying3 h3
 obtain ⟨b, e4, _⟩ := DataW.trod_int Tryz.underlying3 h4
 simp only [List.cons.injEq, and_true] at e0 e1 e3 e4
 subst e0; subst e1; subst e3; subst e4
 obtain ⟨sp, l, _, g1, g2, g3⟩ := slice_in (W := W) hA Fld.d (fun _ => True) cells45 (by decide) (by kernel_rfl) (und_of Tryz.underlying30) h2 (hw2 _ (List.getElem?_eq_getElem (by omega))) (fun m cs x _ hx _ => fld_in hx)
 exact ⟨⟨k, s, sp, l, a, b⟩, few g1 (of_decide_eq_true (by kernel_rfl)), rfl, rfl, Cin.v rfl rfl (Cin.v rfl rfl (Cin.cons g2 g3 (Cin.v rfl rfl (Cin.v rfl rfl Cin.nil))))⟩
theorem tm_in (hA : ∀ b, A b) : ∀ (n : Nat) {cs : List Value} {x : DataW H × List MemPlace}, DataW.trod enc Tryz.prog W base (fun _ => true) held n 37 cs = some x → Wok 37 x.1 → ∃ t : Tm, t.fits ∧ t.d.cells.length = 5 ∧ cs.length = 5 ∧ Cin W A t.d.cells cs := by
 intro n
 induction n using Nat.strongRecOn with
 | _ n ih =>
 intro cs x h hw
 obtain ⟨xs, n', rfl, rfl, hl, hxl, hf⟩ := DataW.trod_struct (und_of Tryz.underlying37) h
 have hl5 : cs.length = 5 := by rw [hl, cells37]
 obtain ⟨v0, v1, v2, v3, v4, rfl⟩ := len5 hl5
 have hx5 : xs.length = 5 := hxl
 have h0 : DataW.trod enc Tryz.prog W base (fun _ => true) held n' 5 ((([v0, v1, v2, v3, v4] : List Value).drop 0).take (Tryz.prog.cellsOf 5)) = xs[0]? := hf 0 _ rfl
 have h1 : DataW.trod enc Tryz.prog W base (fun _ => true) held n' 3 ((([v0, v1, v2, v3, v4] : List Value).drop 1).take (Tryz.prog.cellsOf 3)) = xs[1]? := hf 1 _ rfl
 have h2 : DataW.trod enc Tryz.prog W base (fun _ => true) held n' 2 ((([v0, v1, v2, v3, v4] : List Value).drop 2).take (Tryz.prog.cellsOf 2)) = xs[2]? := hf 2 _ rfl
 have h3 : DataW.trod enc Tryz.prog W base (fun _ => true) held n' 9 ((([v0, v1, v2, v3, v4] : List Value).drop 3).take (Tryz.prog.cellsOf 9)) = xs[3]? := hf 3 _ rfl
 have h4 : DataW.trod enc Tryz.prog W base (fun _ => true) held n' 35 ((([v0, v1, v2, v3, v4] : List Value).drop 4).take (Tryz.prog.cellsOf 35)) = xs[4]? := hf 4 _ rfl
 have hw2 : ∀ y, xs[4]? = some y → Wok 35 y.1 := fun y hy => hw.field (und_of Tryz.underlying37) (i := 4) rfl (by rw [List.getElem?_map, hy]; rfl)
 rw [List.getElem?_eq_getElem (by omega)] at h0 h1 h2 h3 h4
 simp only [cells5, cells3, cells2, cells9, cells35, List.drop_zero, List.drop_succ_cons, List.take_succ_cons, List.take_zero] at h0 h1 h2 h3 h4
 obtain ⟨k, e0, _⟩ := DataW.trod_int Tryz.underlying5 h0
 obtain ⟨a, e1, _⟩ := DataW.trod_int Tryz.underlying3 h1
 obtain ⟨b, e2, _⟩ := DataW.trod_int Tryz.underlying2 h2
 obtain ⟨s, e3, _⟩ := DataW.trod_string Tryz.underlying9 h3
 simp only [List.cons.injEq, and_true] at e0 e1 e2 e3
 subst e0; subst e1; subst e2; subst e3
 obtain ⟨sp, l, g0, g1, g2, g3⟩ := slice_in (W := W) hA Tm.d Tm.fits cells37 (by decide) (by kernel_rfl) (und_of Tryz.underlying35) h4 (hw2 _ (List.getElem?_eq_getElem (by omega))) (fun m cs x hm hx hw3 => ih m (by omega) hx hw3)
 refine ⟨.mk k a b s sp l, ⟨few g1 (of_decide_eq_true (by kernel_rfl)), fitsT_all g0⟩, Tm.cells_len _, rfl, ?_⟩
 unfold Tm.d D.cells
 dsimp only
 rw [Tm.cells, cellsT_map]
 exact Cin.v rfl rfl (Cin.v rfl rfl (Cin.v rfl rfl (Cin.v rfl rfl (Cin.cons g2 g3 Cin.nil))))
theorem fnc_in (hA : ∀ b, A b) {n : Nat} {cs : List Value} {x : DataW H × List MemPlace} (h : DataW.trod enc Tryz.prog W base (fun _ => true) held n 39 cs = some x) (hw : Wok 39 x.1) : ∃ t : Fnc, t.fits ∧ t.d.cells.length = 10 ∧ cs.length = 10 ∧ Cin W A t.d.cells cs := by
 obtain ⟨xs, n', rfl, rfl, hl, hxl, hf⟩ := DataW.trod_struct (und_of Tryz.underlying39) h
 have hl5 : cs.length = 10 := by rw [hl, cells39]
 obtain ⟨v0, v1, v2, v3, v4, v5, v6, v7, v8, v9, rfl⟩ := len10 hl5
 have hx5 : xs.length = 6 := hxl
 have h0 : DataW.trod enc Tryz.prog W base (fun _ => true) held n' 9 ((([v0, v1, v2, v3, v4, v5, v6, v7, v8, v9] : List Value).drop 0).take (Tryz.prog.cellsOf 9)) = xs[0]? := hf 0 _ rfl
 have h1 : DataW.trod enc Tryz.prog W base (fun _ => true) held n' 34 ((([v0, v1, v2, v3, v4, v5, v6, v7, v8, v9] : List Value).drop 1).take (Tryz.prog.cellsOf 34)) = xs[1]? := hf 1 _ rfl
 have h2 : DataW.trod enc Tryz.prog W base (fun _ => true) held n' 34 ((([v0, v1, v2, v3, v4, v5, v6, v7, v8, v9] : List Value).drop 2).take (Tryz.prog.cellsOf 34)) = xs[2]? := hf 2 _ rfl
 have h3 : DataW.trod enc Tryz.prog W base (fun _ => true) held n' 34 ((([v0, v1, v2, v3, v4, v5, v6, v7, v8, v9] : List Value).drop 3).take (Tryz.prog.cellsOf 34)) = xs[3]? := hf 3 _ rfl
 have h4 : DataW.trod enc Tryz.prog W base (fun _ => true) held n' 37 ((([v0, v1, v2, v3, v4, v5, v6, v7, v8, v9] : List Value).drop 4).take (Tryz.prog.cellsOf 37)) = xs[4]? := hf 4 _ rfl
 have h5 : DataW.trod enc Tryz.prog W base (fun _ => true) held n' 3 ((([v0, v1, v2, v3, v4, v5, v6, v7, v8, v9] : List Value).drop 9).take (Tryz.prog.cellsOf 3)) = xs[5]? := hf 5 _ rfl
 have hw1 : ∀ y, xs[1]? = some y → Wok 34 y.1 := fun y hy => hw.field (und_of Tryz.underlying39) (i := 1) rfl (by rw [List.getElem?_map, hy]; rfl)
 have hw2 : ∀ y, xs[2]? = some y → Wok 34 y.1 := fun y hy => hw.field (und_of Tryz.underlying39) (i := 2) rfl (by rw [List.getElem?_map, hy]; rfl)
 have hw3 : ∀ y, xs[3]? = some y → Wok 34 y.1 := fun y hy => hw.field (und_of Tryz.underlying39) (i := 3) rfl (by rw [List.getElem?_map, hy]; rfl)
 have hw4 : ∀ y, xs[4]? = some y → Wok 37 y.1 := fun y hy => hw.field (und_of Tryz.underlying39) (i := 4) rfl (by rw [List.getElem?_map, hy]; rfl)
 rw [List.getElem?_eq_getElem (by omega)] at h0 h1 h2 h3 h4 h5
 simp only [cells3, cells9, cells34, cells37, List.drop_zero, List.drop_succ_cons, List.take_succ_cons, List.take_zero] at h0 h1 h2 h3 h4 h5
 obtain ⟨s, e0, _⟩ := DataW.trod_string Tryz.underlying9 h0
 obtain ⟨a, e5, _⟩ := DataW.trod_int Tryz.underlying3 h5
 simp only [List.cons.injEq, and_true] at e0 e5
 subst e0; subst e5
 obtain ⟨sp1, l1, g1, g1r, g1v⟩ := ints_in (W := W) (A := A) hA h1 (hw1 _ (List.getElem?_eq_getElem (by omega)))
 obtain ⟨sp2, l2, g2, g2r, g2v⟩ := ints_in (W := W) (A := A) hA h2 (hw2 _ (List.getElem?_eq_getElem (by omega)))
 obtain ⟨sp3, l3, g3, g3r, g3v⟩ := ints_in (W := W) (A := A) hA h3 (hw3 _ (List.getElem?_eq_getElem (by omega)))
 obtain ⟨b, q1, q2, q3, q4⟩ := tm_in (W := W) (A := A) hA _ h4 (hw4 _ (List.getElem?_eq_getElem (by omega)))
 refine ⟨⟨s, sp1, l1, sp2, l2, sp3, l3, b, a⟩, ⟨g1, g2, g3, q1⟩, ?_, rfl, ?_⟩
 · show (dS s :: _ :: _ :: _ :: (b.cells ++ [dI .i64 a])).length = 10
   simp [b.cells_len]
 · exact Cin.v rfl rfl (Cin.cons g1r g1v (Cin.cons g2r g2v (Cin.cons g3r g3v (Cin.app (cs := [v4, v5, v6, v7, v8]) q4 (Cin.v rfl rfl Cin.nil)))))
theorem pro_in (hA : ∀ b, A b) {n : Nat} {cs : List Value} {x : DataW H × List MemPlace} (h : DataW.trod enc Tryz.prog W base (fun _ => true) held n 25 cs = some x) (hw : Wok 25 x.1) : ∃ p : Pro, p.fits ∧ cs.length = 2 ∧ Cin W A p.cells cs := by
 obtain ⟨xs, n', rfl, rfl, hl, hxl, hf⟩ := DataW.trod_struct (und_of Tryz.underlying25) h
 have hl2 : cs.length = 2 := by rw [hl, cells25]
 obtain ⟨v0, v1, rfl⟩ := len2 hl2
 have hx2 : xs.length = 2 := hxl
 have h0 : DataW.trod enc Tryz.prog W base (fun _ => true) held n' 22 ((([v0, v1] : List Value).drop 0).take (Tryz.prog.cellsOf 22)) = xs[0]? := hf 0 _ rfl
 have h1 : DataW.trod enc Tryz.prog W base (fun _ => true) held n' 23 ((([v0, v1] : List Value).drop 1).take (Tryz.prog.cellsOf 23)) = xs[1]? := hf 1 _ rfl
 have hw0 : ∀ y, xs[0]? = some y → Wok 22 y.1 := fun y hy => hw.field (und_of Tryz.underlying25) (i := 0) rfl (by rw [List.getElem?_map, hy]; rfl)
 have hw1 : ∀ y, xs[1]? = some y → Wok 23 y.1 := fun y hy => hw.field (und_of Tryz.underlying25) (i := 1) rfl (by rw [List.getElem?_map, hy]; rfl)
 rw [List.getElem?_eq_getElem (by omega)] at h0 h1
 simp only [cells22, cells23, List.drop_zero, List.drop_succ_cons, List.take_succ_cons, List.take_zero] at h0 h1
 obtain ⟨sp1, l1, g1, g1l, g1r, g1v⟩ := slice_in (W := W) hA Typ.d Typ.fits cells32 (by decide) (by kernel_rfl) (und_of Tryz.underlying22) h0 (hw0 _ (List.getElem?_eq_getElem (by omega))) (fun m cs x _ hx hw3 => typ_in hA hx hw3)
 obtain ⟨sp2, l2, g2, g2l, g2r, g2v⟩ := slice_in (W := W) hA Fnc.d Fnc.fits cells39 (by decide) (by kernel_rfl) (und_of Tryz.underlying23) h1 (hw1 _ (List.getElem?_eq_getElem (by omega))) (fun m cs x _ hx hw3 => fnc_in hA hx hw3)
 exact ⟨⟨sp1, l1, sp2, l2⟩, ⟨few g1l (of_decide_eq_true (by kernel_rfl)), few g2l (of_decide_eq_true (by kernel_rfl)), g1, g2⟩, rfl, Cin.cons g1r g1v (Cin.cons g2r g2v Cin.nil)⟩
end
end X
end Go.Proofs.YtmjmpaceopipbaaGreat
namespace Go.Proofs.YtmjmpaceopipbaaGreat
namespace X
open Go B Go.Proofs
theorem strBeq_self (s : ByteArray) : strBeq s s = true := by rw [strBeq_eq]; simp
theorem strBeq_comm (s u : ByteArray) : strBeq s u = strBeq u s := by rw [strBeq_eq, strBeq_eq]; exact decide_eq_decide.2 eq_comm
def eqL {α : Type} (p : α → α → Bool) (l m : List α) : Bool := decide (l.length = m.length) && (l.zip m).all fun x => p x.1 x.2
theorem eqL_nil {α : Type} (p : α → α → Bool) : eqL p [] [] = true := rfl
theorem eqL_cons {α : Type} (p : α → α → Bool) (a b : α) (l m : List α) : eqL p (a :: l) (b :: m) = (p a b && eqL p l m) := by
 unfold eqL
 have : decide ((a :: l).length = (b :: m).length) = decide (l.length = m.length) := decide_eq_decide.2 (by simp)
 rw [this, List.zip_cons_cons, List.all_cons]
 cases p a b <;> cases decide (l.length = m.length) <;> rfl
theorem eqL_nc {α : Type} (p : α → α → Bool) (b : α) (m : List α) : eqL p [] (b :: m) = false := rfl
theorem eqL_cn {α : Type} (p : α → α → Bool) (a : α) (l : List α) : eqL p (a :: l) [] = false := rfl
theorem eqL_congr {α β : Type} {p : α → α → Bool} {q : β → β → Bool} (f g : β → α) : ∀ {l m : List β}, (∀ a, a ∈ l → ∀ b, b ∈ m → p (f a) (g b) = q a b) → eqL p (l.map f) (m.map g) = eqL q l m
 | [], [], _ => rfl
 | [], _ :: _, _ => rfl
 | _ :: _, [], _ => rfl
 | a :: l, b :: m, h => by
  rw [List.map_cons, List.map_cons, eqL_cons, eqL_cons, h a (by simp) b (by simp), eqL_congr f g fun c hc d hd => h c (by simp [hc]) d (by simp [hd])]
theorem eqL_refl {α : Type} {p : α → α → Bool} : ∀ {l : List α}, (∀ a, a ∈ l → p a a = true) → eqL p l l = true
 | [], _ => rfl
 | a :: l, h => by rw [eqL_cons, h a (by simp), eqL_refl fun c hc => h c (by simp [hc])]; rfl
theorem eqL_comm {α : Type} {p : α → α → Bool} : ∀ {l m : List α}, (∀ a, a ∈ l → ∀ b, b ∈ m → p a b = p b a) → eqL p l m = eqL p m l
 | [], [], _ => rfl
 | [], _ :: _, _ => rfl
 | _ :: _, [], _ => rfl
 | a :: l, b :: m, h => by
  rw [eqL_cons, eqL_cons, h a (by simp) b (by simp), eqL_comm fun c hc d hd => h c (by simp [hc]) d (by simp [hd])]
def intEq (a b : Int) : Bool := decide (a = b)
theorem intEq_comm (a b : Int) : intEq a b = intEq b a := decide_eq_decide.2 eq_comm
def fldEq (a b : Fld) : Bool := strBeq a.n b.n && decide (a.t = b.t)
theorem fldEq_comm (a b : Fld) : fldEq a b = fldEq b a := by unfold fldEq; rw [strBeq_comm, decide_eq_decide.2 (@eq_comm _ a.t b.t)]
theorem fldEq_self (a : Fld) : fldEq a a = true := by unfold fldEq; rw [strBeq_self]; simp
def typEq (a b : Typ) : Bool := decide (a.k = b.k) && strBeq a.n b.n && decide (a.el = b.el) && decide (a.ln = b.ln) && eqL fldEq a.fs b.fs
theorem typEq_comm (a b : Typ) : typEq a b = typEq b a := by
 unfold typEq
 rw [strBeq_comm, decide_eq_decide.2 (@eq_comm _ a.k b.k), decide_eq_decide.2 (@eq_comm _ a.el b.el), decide_eq_decide.2 (@eq_comm _ a.ln b.ln), eqL_comm fun a _ b _ => fldEq_comm a b]
theorem typEq_self (a : Typ) : typEq a a = true := by unfold typEq; rw [strBeq_self, eqL_refl fun a _ => fldEq_self a]; simp
mutual
def tmEq : Tm → Tm → Bool
 | .mk o t n s _ l, .mk o' t' n' s' _ l' => decide (o = o') && decide (t = t') && decide (n = n') && strBeq s s' && tmEqL l l'
def tmEqL : List Tm → List Tm → Bool
 | [], [] => true
 | a :: l, b :: m => tmEq a b && tmEqL l m
 | _, _ => false
end
theorem tmEqL_eq : ∀ l m, tmEqL l m = eqL tmEq l m
 | [], [] => by rw [tmEqL]; rfl
 | [], _ :: _ => by unfold tmEqL; rfl
 | _ :: _, [] => by unfold tmEqL; rfl
 | a :: l, b :: m => by rw [tmEqL, eqL_cons, tmEqL_eq l m]
theorem tmEq_mk (o t n : Int) (s : ByteArray) (p : Option (List D)) (l : List Tm) (o' t' n' : Int) (s' : ByteArray) (p' : Option (List D)) (l' : List Tm) :
    tmEq (.mk o t n s p l) (.mk o' t' n' s' p' l') = (decide (o = o') && decide (t = t') && decide (n = n') && strBeq s s' && eqL tmEq l l') := by rw [tmEq, tmEqL_eq]
theorem tmEq_comm : ∀ a b, tmEq a b = tmEq b a := by
 apply Tm.ind
 intro o t n s p l ih b
 cases b with
 | mk o' t' n' s' p' l' =>
 rw [tmEq_mk, tmEq_mk, strBeq_comm, decide_eq_decide.2 (@eq_comm _ o o'), decide_eq_decide.2 (@eq_comm _ t t'), decide_eq_decide.2 (@eq_comm _ n n'), eqL_comm fun a ha b _ => ih a ha b]
theorem tmEq_self : ∀ a, tmEq a a = true := by
 apply Tm.ind
 intro o t n s p l ih
 rw [tmEq_mk, strBeq_self, eqL_refl fun a ha => ih a ha]; simp
def fncEq (a b : Fnc) : Bool := strBeq a.n b.n && eqL intEq a.ps b.ps && eqL intEq a.rs b.rs && eqL intEq a.ss b.ss && tmEq a.b b.b
theorem fncEq_comm (a b : Fnc) : fncEq a b = fncEq b a := by
 unfold fncEq
 rw [strBeq_comm, tmEq_comm, eqL_comm fun (x : Int) (_ : x ∈ a.ps) y (_ : y ∈ b.ps) => intEq_comm x y, eqL_comm fun (x : Int) (_ : x ∈ a.rs) y (_ : y ∈ b.rs) => intEq_comm x y, eqL_comm fun (x : Int) (_ : x ∈ a.ss) y (_ : y ∈ b.ss) => intEq_comm x y]
theorem intEq_self (a : Int) : intEq a a = true := by simp [intEq]
theorem fncEq_self (a : Fnc) : fncEq a a = true := by
 unfold fncEq
 rw [strBeq_self, tmEq_self, eqL_refl fun a _ => intEq_self a, eqL_refl fun a _ => intEq_self a, eqL_refl fun a _ => intEq_self a]; rfl
def proEq (a b : Pro) : Bool := eqL typEq a.ts b.ts && eqL fncEq a.fs b.fs
theorem proEq_comm (a b : Pro) : proEq a b = proEq b a := by
 unfold proEq
 rw [eqL_comm fun a _ b _ => typEq_comm a b, eqL_comm fun a _ b _ => fncEq_comm a b]
theorem proEq_self (a : Pro) : proEq a a = true := by unfold proEq; rw [eqL_refl fun a _ => typEq_self a, eqL_refl fun a _ => fncEq_self a]; rfl
def mkInts : List D := [dI .i64 (-771), dI .i64 (-772), dI .i64 (-773)]
def mkFld : Fld := ⟨str [], -77⟩
def lentTyp (t : Typ) : Typ := { t with fp := some [mkFld.d] }
def mkTyp : Typ := ⟨177, str [], none, [], 0, 0⟩
def mkTm (o : Int) : Tm := .mk o 0 0 (str []) none []
mutual
def lentTm : Tm → Tm
 | .mk o t n s _ l => .mk o t n s (some [(mkTm 177).d, (mkTm 178).d]) (lentTmL l)
def lentTmL : List Tm → List Tm
 | [] => []
 | a :: l => lentTm a :: lentTmL l
end
theorem lentTmL_map : ∀ l, lentTmL l = l.map lentTm
 | [] => by rw [lentTmL]; rfl
 | a :: l => by rw [lentTmL, lentTmL_map l]; rfl
def lentFnc (f : Fnc) : Fnc := { f with pp := some mkInts, rp := some mkInts, sp := some mkInts, b := lentTm f.b }
def mkFnc : Fnc := ⟨str [], none, [], none, [], none, [], .mk 0 0 0 (str []) none [], -77⟩
def lentPro (p : Pro) : Pro := ⟨some [mkTyp.d], p.ts.map lentTyp, some [mkFnc.d], p.fs.map lentFnc⟩
theorem lentTm_eq : ∀ a b, tmEq (lentTm a) b = tmEq a b := by
 apply Tm.ind
 intro o t n s p l ih b
 cases b with
 | mk o' t' n' s' p' l' =>
 rw [lentTm, tmEq_mk, tmEq_mk, lentTmL_map]
 have := eqL_congr (p := tmEq) (q := tmEq) lentTm id (l := l) (m := l') fun a ha b _ => ih a ha b
 rw [List.map_id] at this
 rw [this]
theorem lentFnc_eq (a b : Fnc) : fncEq (lentFnc a) b = fncEq a b := by
 unfold fncEq lentFnc
 dsimp only
 rw [lentTm_eq]
theorem lentPro_eq (a b : Pro) : proEq (lentPro a) b = proEq a b := by
 unfold proEq lentPro
 dsimp only
 have h1 := eqL_congr (p := typEq) (q := typEq) lentTyp id (l := a.ts) (m := b.ts) fun a _ b _ => rfl
 have h2 := eqL_congr (p := fncEq) (q := fncEq) lentFnc id (l := a.fs) (m := b.fs) fun a _ b _ => lentFnc_eq a b
 rw [List.map_id] at h1 h2
 rw [h1, h2]
theorem lentPro_eq2 (a b : Pro) : proEq (lentPro a) (lentPro b) = proEq a b := by rw [lentPro_eq, proEq_comm, lentPro_eq, proEq_comm]
theorem getE_map {α : Type} (f : α → D) {l : List α} {i : Nat} {a : α} (h : l[i]? = some a) : (l.map f)[i]? = some (f a) := by rw [List.getElem?_map, h]; rfl
theorem zip_get {α β : Type} {l : List α} {m : List β} {i : Nat} {x : α × β} (h : (l.zip m)[i]? = some x) : l[i]? = some x.1 ∧ m[i]? = some x.2 := by
 rw [List.getElem?_zip_eq_some] at h; exact h
theorem zip_len {α β : Type} {l : List α} {m : List β} (h : l.length = m.length) : (l.zip m).length = l.length := by rw [List.length_zip]; omega
end X
end Go.Proofs.YtmjmpaceopipbaaGreat
namespace Go.Proofs.YtmjmpaceopipbaaGreat
namespace X
open Go Go.Proofs B
noncomputable def cxW (W : World) : Cx := ⟨theTabs, [], heapOf W, fun _ => False, fun _ => True, fun b => (heapOf W).next ≤ b, fun _ _ => trivial, fun _ h => h⟩
theorem noPriv {E : SE} {va : List VA} (ho : E.ω = []) (hv : ∀ (i : Nat) (fr : Bool), va[i]? ≠ some (VA.ow fr)) (b : Nat) : ¬ Priv E va b := by
 rintro (h | ⟨i, fr, h, _⟩)
 · rw [ho] at h; cases h
 · exact hv i fr h
def handX : FunT := fun _ _ => some (0, [dB true])
theorem main_in {W : World} {j n : Nat} {s : Sig} (hp : PrgOK Tryz.prog prg (G.extT G.tblX) handX) (hs : (j, s) ∈ prg.eng ++ prg.hnd) (hl : s.locs = []) (ho : s.outs = [⟨1, false, .x n, [], s.va ++ [.sc]⟩]) (hn : n = s.va.length)
    {ds : List D} {w av : List Value} (hw : w.length = ds.length) (hva : s.va.length = ds.length) (hno : ∀ (i : Nat) (fr : Bool), s.va[i]? ≠ some (VA.ow fr))
    (hvar : ∀ (i : Nat) (a : VA) (d : D) (v : Value), s.va[i]? = some a → ds[i]? = some d → w[i]? = some v → VarOK (cxW W) (heapOf W) (Priv ⟨ds, w, []⟩ s.va) a d v)
    (ha : DnL ⟨ds, w, []⟩ s.args av) (hM : ML prg handX j ds = some (0, [dB true])) : ∃ H', theCall Tryz.prog (G.extT G.tblX) s.f av (heapOf W) = some (.ret (.bool true), H') := by
 have hnp := noPriv (E := ⟨ds, w, []⟩) rfl hno
 have hrel : SRel (cxW W) ⟨ds, w, []⟩ ⟨s.args, s.locs, s.va⟩ av (heapOf W) := by
  rw [hl]
  exact { lw := hw, la := hva, lo := rfl, var := hvar, loc := fun b sb a h => by simp at h, tm := ha, nd := List.nodup_nil,
          own := fun i j fi fj b h => absurd h (hno i fi), own2 := fun i f b h => absurd h (hno i f), fm := ⟨Nat.le_refl _, (heapOf_rel Tryz.prog W).fresh, fun _ _ _ => rfl⟩, pn := fun b hb => absurd hb (hnp b) }
 obtain ⟨a, ws, os, v, H', h1, h2, h3, h4, h5⟩ := ML_ok hp hs (cxW W) ⟨ds, w, []⟩ av (heapOf W) 0 [dB true] rfl rfl rfl (fun b hb => absurd hb (hnp b)) hrel hM
 rw [ho] at h1
 simp only [List.getElem?_cons_zero, Option.some.injEq] at h1
 subst h1
 dsimp only at h4
 have hlw : ws.length = 1 := by
  have := h4.lw
  simp only [List.length_append, List.length_cons, List.length_nil] at this
  omega
 obtain ⟨u, rfl⟩ : ∃ u, ws = [u] := by
  match ws, hlw with
  | [u], _ => exact ⟨u, rfl⟩
 have hu := h4.var n .sc (dB true) u (by rw [List.getElem?_append_right (by omega), hn, Nat.sub_self]; rfl) (by rw [List.getElem?_append_right (by omega), hn, hva, Nat.sub_self]; rfl) (by rw [List.getElem?_append_right (by omega), hn, hva, hw, Nat.sub_self]; rfl)
 obtain ⟨e1, _, _⟩ := hu
 simp only [D.v.injEq] at e1
 have hv := h4.tm.at_ 0 _ v rfl rfl
 rcases hv with hv | ⟨_, hv⟩
 · cases hv
 · have hv2 : v = (w ++ [u]).getD n undef := hv
   rw [getD_of (by rw [List.getElem?_append_right (by omega), hn, hva, hw, Nat.sub_self]; rfl : (w ++ [u])[n]? = some u)] at hv2
   rw [hv2, ← e1] at h3
   exact ⟨H', h3⟩
end X
end Go.Proofs.YtmjmpaceopipbaaGreat
namespace Go.Proofs.YtmjmpaceopipbaaGreat
namespace X
open Go Go.Proofs B G
theorem works_spec : SpecOK prg.T (theCall Tryz.prog (extT tblX)) (sB 9 [] []) (handX 3030) := by
 intro C E args H k out _ _ _ _ hrel hM
 simp only [handX, Option.some.injEq, Prod.mk.injEq] at hM
 obtain ⟨rfl, rfl⟩ := hM
 have hr : E.ρ = [] := List.eq_nil_of_length_eq_zero (by rw [← hrel.la]; rfl)
 have hw : E.w = [] := List.eq_nil_of_length_eq_zero (by rw [hrel.lw, hr]; rfl)
 have ha : args = [] := List.eq_nil_of_length_eq_zero (by rw [← hrel.tm.len]; rfl)
 subst ha
 refine ⟨_, [.bool true], [], .bool true, H, rfl, rfl, theCall_ext (extX_works H), ?_, fun b hb => by cases hb⟩
 have h1 := hrel.newvar (d := dB true) (v := .bool true) (a := .sc) rfl ⟨rfl, rfl, rfl⟩
 have h2 := h1.slots (ss := [.x 0]) (vs := [.bool true]) ⟨rfl, fun i s v h3 h4 => by
  match i with
  | 0 =>
   simp only [List.getElem?_cons_zero, Option.some.injEq] at h3 h4
   subst h3; subst h4
   refine .inr ⟨?_, ?_⟩
   · show Nat.blt 0 (E.ρ ++ [dB true]).length = true
     rw [hr]; rfl
   · show _ = (E.w ++ [Value.bool true]).getD 0 undef
     rw [hw]; rfl
  | _ + 1 => simp at h3⟩
 show SRel C ⟨E.ρ ++ [dB true], E.w ++ [.bool true], E.ω ++ []⟩ _ _ H
 rw [List.append_nil]
 exact h2
set_option maxRecDepth 100000 in
theorem eng_ok : ∀ p, p ∈ engAll → getSig engAll p.1 = some p.2 ∧ Nat.beq p.2.f 9 = false := by
 intro p h
 unfold engAll at h
 simp only [List.mem_cons, List.not_mem_nil, or_false] at h
 rcases h with rfl | rfl | rfl | rfl | rfl | rfl | rfl | rfl | rfl | rfl | rfl | rfl | rfl | rfl | rfl | rfl | rfl | rfl | rfl | rfl | rfl | rfl | rfl | rfl | rfl | rfl <;> exact ⟨rfl, rfl⟩
theorem prg_ok : PrgOK Tryz.prog prg (extT tblX) handX where
 tab := theTabs_ok
 ent := theTabs_en
 inl := fun g h => by cases h
 eqT := fun t h => by
  obtain rfl := Nat.eq_of_beq_eq_true (h : Nat.beq t 45 = true)
  exact ⟨by kernel_rfl, by kernel_rfl⟩
 rnd := fun K args H => extX_none (by
  have hsz : Tryz.prog.funcs.size = 291 := by kernel_rfl
  cases h : Nat.beq (Tryz.prog.funcs.size + K) 9 with
  | false => rfl
  | true => have := Nat.eq_of_beq_eq_true h; omega) args H
 eng := fun j s h => by
  obtain ⟨h1, h2⟩ := eng_ok (j, s) h
  exact ⟨h1, fun args H => extX_none h2 args H⟩
 hnd := fun j s h => by
  have h' : (j, s) ∈ hndAll := h
  unfold hndAll at h'
  simp only [List.mem_cons, List.not_mem_nil, or_false, Prod.mk.injEq] at h'
  obtain ⟨rfl, rfl⟩ := h'
  exact ⟨rfl, works_spec⟩
end X
end Go.Proofs.YtmjmpaceopipbaaGreat
namespace Go.Proofs.YtmjmpaceopipbaaGreat
namespace X
open Go B Go.Proofs
variable {hand : FunT}
theorem bEqL (a b : Int) : binD theTabs .eql 2 (.v (.int .i64 a)) (.v (.int .i64 b)) = some (.v (.bool (decide (a = b)))) := by kernel_rfl
theorem bNeL (a b : Int) : binD theTabs .neq 2 (.v (.int .i64 a)) (.v (.int .i64 b)) = some (.v (.bool (!decide (a = b)))) := by kernel_rfl
theorem addN {i : Nat} (h : i < 140737488355328) : binD theTabs .add 3 (.v (.int .i64 (i : Int))) (.v (.int .i64 1)) = some (.v (.int .i64 ((i + 1 : Nat) : Int))) := bAddI (by rw [wrap_i64] <;> omega)
theorem ltY {i n : Nat} (h : i < n) : binD theTabs .lss 3 (.v (.int .i64 (i : Int))) (.v (.int .i64 (n : Int))) = some (.v (.bool true)) := by rw [bLtI]; simp; omega
theorem ltN (n : Nat) : binD theTabs .lss 3 (.v (.int .i64 (n : Int))) (.v (.int .i64 (n : Int))) = some (.v (.bool false)) := by rw [bLtI]; simp
theorem eqsF (s u : ByteArray) (a b : Int) : eqsD theTabs 45 [.v (.string s), .v (.int .i64 a)] [.v (.string u), .v (.int .i64 b)] = some (strBeq s u && decide (a = b)) := by
 have : eqsD theTabs 45 [.v (.string s), .v (.int .i64 a)] [.v (.string u), .v (.int .i64 b)] = some (strBeq s u && (decide (a = b) && true)) := by kernel_rfl
 rw [this, Bool.and_true]
theorem cmp_out {α : Type} {oF oT : Out} (p : α → α → Bool) (l m : List α) {f : List D → Option Out}
    (hs : l.length = m.length → ∀ i a b, i < l.length → l[i]? = some a → m[i]? = some b → f [.v (.int .i64 (i : Int))] = if p a b then some (.again [.v (.int .i64 ((i + 1 : Nat) : Int))]) else some (.done oF))
    (he : l.length = m.length → f [.v (.int .i64 ((l.length : Nat) : Int))] = some (.done oT)) :
    (if (!decide ((l.length : Int) = (m.length : Int))) = true then some oF else iterL f [.v (.int .i64 0)]) = some (if eqL p l m then oT else oF) := by
 unfold eqL
 by_cases h : l.length = m.length
 · have h1 : decide ((l.length : Int) = (m.length : Int)) = true := by simp [h]
   have h2 : decide (l.length = m.length) = true := by simp [h]
   rw [h1, h2, Bool.not_true, if_neg Bool.false_ne_true, Bool.true_and]
   refine iterL_all (l.zip m) (fun x => p x.1 x.2) (fun i => [.v (.int .i64 (i : Int))]) (fun i x hx => ?_) ?_
   · obtain ⟨g1, g2⟩ := zip_get hx
     exact hs h i x.1 x.2 (List.getElem?_eq_some_iff.1 g1).1 g1 g2
   · have := zip_len h
     show f [.v (.int .i64 (((l.zip m).length : Nat) : Int))] = _
     rw [this]; exact he h
 · have h1 : decide ((l.length : Int) = (m.length : Int)) = false := by simp; omega
   have h2 : decide (l.length = m.length) = false := by simp [h]
   rw [h1, h2]; rfl
theorem cmp_fin {α : Type} (p : α → α → Bool) (l m : List α) {f : List D → Option Out}
    (hs : l.length = m.length → ∀ i a b, i < l.length → l[i]? = some a → m[i]? = some b → f [.v (.int .i64 (i : Int))] = if p a b then some (.again [.v (.int .i64 ((i + 1 : Nat) : Int))]) else some (.done (.fin 0 [.v (.bool false)])))
    (he : l.length = m.length → f [.v (.int .i64 ((l.length : Nat) : Int))] = some (.done (.fin 0 [.v (.bool true)]))) :
    finO (if (!decide ((l.length : Int) = (m.length : Int))) = true then some (.fin 0 [.v (.bool false)]) else iterL f [.v (.int .i64 0)]) = some (0, [.v (.bool (eqL p l m))]) := by
 rw [cmp_out p l m hs he]
 cases eqL p l m <;> rfl
theorem mlen {α : Type} {e : Nat} {f : α → D} {l : List α} {d : D} (h : KG e (l.map f) d) : lenD false d = some (.v (.int .i64 (l.length : Int))) := by rw [lenG h, List.length_map]
theorem mbnd {α : Type} {e : Nat} {f : α → D} {l : List α} {d : D} (h : KG e (l.map f) d) {i : Nat} (hi : i < l.length) : bndD e d (.v (.int .i64 (i : Int))) = true := bndG h (by simpa using hi)
theorem mld {α : Type} {e : Nat} {f : α → D} {l : List α} {d : D} (h : KG e (l.map f) d) {i : Nat} {a : α} (ha : l[i]? = some a) {o : Nat} {fl : List Bool} {r : List D} (hr : ((f a).cells.drop o).take fl.length = r) (hf : flOk fl r = true) : ldD e d i o fl = some r := ldG h (getE_map f ha) hr hf
section
variable {i : Nat} {d : D}
theorem ldI {l : List Int} (h : KG 3 (l.map dInt) d) {a : Int} (ha : l[i]? = some a) : ldD 3 d i 0 [true] = some [.v (.int .i64 a)] := mld h ha rfl rfl
theorem ldF {l : List Fld} (h : KG 45 (l.map Fld.d) d) {a : Fld} (ha : l[i]? = some a) : ldD 45 d i 0 [true, true] = some [.v (.string a.n), .v (.int .i64 a.t)] := mld h ha rfl rfl
theorem ldTy {l : List Typ} (h : KG 32 (l.map Typ.d) d) {a : Typ} (ha : l[i]? = some a) : ldD 32 d i 0 [true, true, false, true, true] = some [.v (.int .u8 a.k), .v (.string a.n), wrapE 45 a.fp (a.fs.map Fld.d), .v (.int .i64 a.el), .v (.int .i64 a.ln)] := mld h ha rfl rfl
theorem ldTm {l : List Tm} (h : KG 37 (l.map Tm.d) d) {o t n : Int} {s : ByteArray} {p : Option (List D)} {k : List Tm} (ha : l[i]? = some (.mk o t n s p k)) :
    ldD 37 d i 0 [true, true, true, true, false] = some [.v (.int .u8 o), .v (.int .i64 t), .v (.int .i64 n), .v (.string s), wrapE 37 p (k.map Tm.d)] :=
 mld h ha (by unfold Tm.d D.cells; dsimp only; rw [Tm.cells, cellsT_map]; rfl) rfl
def Fnc.row (f : Fnc) (o t n : Int) (s : ByteArray) (p : Option (List D)) (k : List Tm) : List D := [.v (.string f.n), wrapE 3 f.pp (f.ps.map dInt), wrapE 3 f.rp (f.rs.map dInt), wrapE 3 f.sp (f.ss.map dInt), .v (.int .u8 o), .v (.int .i64 t), .v (.int .i64 n), .v (.string s), wrapE 37 p (k.map Tm.d), .v (.int .i64 f.nd)]
theorem Fnc.cells_row {f : Fnc} {o t n : Int} {s : ByteArray} {p : Option (List D)} {k : List Tm} (hb : f.b = .mk o t n s p k) : f.cells = f.row o t n s p k := by
 unfold Fnc.cells Fnc.row
 rw [hb, Tm.cells, cellsT_map]; rfl
theorem ldFn {l : List Fnc} (h : KG 39 (l.map Fnc.d) d) {f : Fnc} (ha : l[i]? = some f) {o t n : Int} {s : ByteArray} {p : Option (List D)} {k : List Tm} (hb : f.b = .mk o t n s p k) :
    ldD 39 d i 0 [true, false, false, false, true, true, true, true, false, true] = some [.v (.string f.n), wrapE 3 f.pp (f.ps.map dInt), wrapE 3 f.rp (f.rs.map dInt), wrapE 3 f.sp (f.ss.map dInt), .v (.int .u8 o), .v (.int .i64 t), .v (.int .i64 n), .v (.string s), wrapE 37 p (k.map Tm.d), .v (.int .i64 f.nd)] :=
 mld h ha (by unfold Fnc.d D.cells; dsimp only; rw [Fnc.cells_row hb]; rfl) rfl
end
theorem iteB (b : Bool) (x y : Option Out) : (if (!b) = true then x else y) = if b = true then y else x := by cases b <;> rfl
theorem t3003 {l m : List Int} {d d' : D} (h : KG 3 (l.map dInt) d) (h' : KG 3 (m.map dInt) d') (hl : l.length < 140737488355328) : ML prg hand 3003 [d, d'] = some (0, [.v (.bool (eqL intEq l m))]) := by
 rw [eq3003]
 unfold tr3003
 simp only [dentL, dv, List.map_cons, List.map_nil, List.cons_append, List.nil_append, List.getD_cons_zero, List.getD_cons_succ, Option.bind_some, bNeI, brB, mlen h, mlen h']
 refine cmp_fin intEq l m (fun he i a b hi ha hb => ?_) fun he => ?_
 · unfold tr3003_b1
   simp only [dentL, dv, ixD, List.map_cons, List.map_nil, List.cons_append, List.nil_append, List.append_assoc, List.getD_cons_zero, List.getD_cons_succ, if_true, Option.bind_some, Option.map_some, bNeI, brB, cond_true, Int.toNat_natCast, mlen h, ltY hi, mbnd h hi, mbnd h' (he ▸ hi), ldI h ha, ldI h' hb, addN (Nat.lt_trans hi hl)]
   exact iteB _ _ _
 · unfold tr3003_b1
   simp only [dentL, dv, ixD, List.map_cons, List.map_nil, List.cons_append, List.nil_append, List.append_assoc, List.getD_cons_zero, List.getD_cons_succ, if_false, Bool.false_eq_true, Option.bind_some, Option.map_some, brB, Int.toNat_natCast, mlen h, ltN]
theorem t3023 {l m : List Int} {d d' : D} (h : KG 3 (l.map dInt) d) (h' : KG 3 (m.map dInt) d') (hl : l.length < 140737488355328) : ML prg hand 3023 [d, d'] = some (0, [.v (.bool (eqL intEq l m))]) := by
 rw [eq3023]
 unfold tr3023
 simp only [dentL, dv, List.map_cons, List.map_nil, List.cons_append, List.nil_append, List.getD_cons_zero, List.getD_cons_succ, Option.bind_some, bNeI, brB, mlen h, mlen h']
 refine cmp_fin intEq l m (fun he i a b hi ha hb => ?_) fun he => ?_
 · unfold tr3023_b1
   simp only [dentL, dv, ixD, List.map_cons, List.map_nil, List.cons_append, List.nil_append, List.append_assoc, List.getD_cons_zero, List.getD_cons_succ, if_true, Option.bind_some, Option.map_some, bNeI, brB, cond_true, Int.toNat_natCast, mlen h, ltY hi, mbnd h hi, mbnd h' (he ▸ hi), ldI h ha, ldI h' hb, addN (Nat.lt_trans hi hl)]
   exact iteB _ _ _
 · unfold tr3023_b1
   simp only [dentL, dv, ixD, List.map_cons, List.map_nil, List.cons_append, List.nil_append, List.append_assoc, List.getD_cons_zero, List.getD_cons_succ, if_false, Bool.false_eq_true, Option.bind_some, Option.map_some, brB, Int.toNat_natCast, mlen h, ltN]
theorem t3015 {l m : List Int} {d d' : D} (h : KG 3 (l.map dInt) d) (h' : KG 3 (m.map dInt) d') (hl : l.length < 140737488355328) : ML prg hand 3015 [d, d'] = some (0, [.v (.bool (eqL intEq l m))]) := by
 rw [eq3015]
 unfold tr3015
 simp only [dentL, dv, List.map_cons, List.map_nil, List.cons_append, List.nil_append, List.getD_cons_zero, List.getD_cons_succ, Option.bind_some, bNeI, brB, mlen h, mlen h']
 refine cmp_fin intEq l m (fun he i a b hi ha hb => ?_) fun he => ?_
 · unfold tr3015_b1
   simp only [dentL, dv, ixD, List.map_cons, List.map_nil, List.cons_append, List.nil_append, List.append_assoc, List.getD_cons_zero, List.getD_cons_succ, if_true, Option.bind_some, Option.map_some, bNeI, brB, cond_true, Int.toNat_natCast, ltY hi, mbnd h hi, mbnd h' (he ▸ hi), ldI h ha, ldI h' hb, addN (Nat.lt_trans hi hl)]
   exact iteB _ _ _
 · unfold tr3015_b1
   simp only [dentL, dv, ixD, List.map_cons, List.map_nil, List.cons_append, List.nil_append, List.append_assoc, List.getD_cons_zero, List.getD_cons_succ, if_false, Bool.false_eq_true, Option.bind_some, Option.map_some, brB, Int.toNat_natCast, ltN]
theorem t3016 {l m : List Fld} {d d' : D} (h : KG 45 (l.map Fld.d) d) (h' : KG 45 (m.map Fld.d) d') (hl : l.length < 140737488355328) : ML prg hand 3016 [d, d'] = some (0, [.v (.bool (eqL fldEq l m))]) := by
 rw [eq3016]
 unfold tr3016
 simp only [dentL, dv, List.map_cons, List.map_nil, List.cons_append, List.nil_append, List.getD_cons_zero, List.getD_cons_succ, Option.bind_some, bNeI, brB, mlen h, mlen h']
 refine cmp_fin fldEq l m (fun he i a b hi ha hb => ?_) fun he => ?_
 · unfold tr3016_b1
   simp only [dentL, dv, ixD, List.map_cons, List.map_nil, List.cons_append, List.nil_append, List.append_assoc, List.getD_cons_zero, List.getD_cons_succ, if_true, Option.bind_some, Option.map_some, brB, cond_true, Int.toNat_natCast, ltY hi, mbnd h hi, mbnd h' (he ▸ hi), ldF h ha, ldF h' hb, eqsF, addN (Nat.lt_trans hi hl)]
   show (if (true != fldEq a b) = true then _ else _) = _
   cases fldEq a b <;> rfl
 · unfold tr3016_b1
   simp only [dentL, dv, ixD, List.map_cons, List.map_nil, List.cons_append, List.nil_append, List.append_assoc, List.getD_cons_zero, List.getD_cons_succ, if_false, Bool.false_eq_true, Option.bind_some, Option.map_some, brB, Int.toNat_natCast, ltN]
theorem Typ.c (t : Typ) : t.cells = [.v (.int .u8 t.k), .v (.string t.n), wrapE 45 t.fp (t.fs.map Fld.d), .v (.int .i64 t.el), .v (.int .i64 t.ln)] := rfl
theorem t3019 {x y : Typ} (hx : x.fits) : ML prg hand 3019 (x.cells ++ y.cells) = some (0, [.v (.bool (typEq x y))]) := by
 rw [eq3019]
 have h16 := t3016 (hand := hand) (KG_wrap 45 x.fp (x.fs.map Fld.d)) (KG_wrap 45 y.fp (y.fs.map Fld.d)) hx
 unfold tr3019
 simp only [Typ.c, dentL, dv, List.map_cons, List.map_nil, List.cons_append, List.nil_append, List.getD_cons_zero, List.getD_cons_succ, Option.bind_some, bEqU8, bEqI, bEqS, brB, h16]
 unfold typEq
 cases decide (x.k = y.k) <;> cases strBeq x.n y.n <;> cases decide (x.el = y.el) <;> cases decide (x.ln = y.ln) <;> rfl
theorem t3022 {x y : Typ} (hx : x.fits) : ML prg hand 3022 (x.cells ++ y.cells) = some (0, [.v (.bool (typEq x y))]) := by
 rw [eq3022]
 have h := KG_wrap 45 x.fp (x.fs.map Fld.d)
 have h' := KG_wrap 45 y.fp (y.fs.map Fld.d)
 unfold tr3022
 simp only [Typ.c, dentL, dv, List.map_cons, List.map_nil, List.cons_append, List.nil_append, List.getD_cons_zero, List.getD_cons_succ, Option.bind_some, bNeU8, bNeI, bNeS, brB, mlen h, mlen h']
 unfold typEq
 cases decide (x.k = y.k)
 · rfl
 cases strBeq x.n y.n
 · rfl
 cases decide (x.el = y.el)
 · rfl
 cases decide (x.ln = y.ln)
 · rfl
 simp only [Bool.not_true, Bool.false_eq_true, if_false, Bool.true_and]
 refine cmp_fin fldEq x.fs y.fs (fun he i a b hi ha hb => ?_) fun he => ?_
 · unfold tr3022_b1
   simp only [dentL, dv, ixD, List.map_cons, List.map_nil, List.cons_append, List.nil_append, List.append_assoc, List.getD_cons_zero, List.getD_cons_succ, if_true, Option.bind_some, Option.map_some, brB, cond_true, Int.toNat_natCast, mlen h, ltY hi, mbnd h hi, mbnd h' (he ▸ hi), ldF h ha, ldF h' hb, eqsF, addN (Nat.lt_trans hi hx)]
   show (if (true != fldEq a b) = true then _ else _) = _
   cases fldEq a b <;> rfl
 · unfold tr3022_b1
   simp only [dentL, dv, ixD, List.map_cons, List.map_nil, List.cons_append, List.nil_append, List.append_assoc, List.getD_cons_zero, List.getD_cons_succ, if_false, Bool.false_eq_true, Option.bind_some, Option.map_some, brB, Int.toNat_natCast, mlen h, ltN]
theorem t3017 {l m : List Typ} {d d' : D} (h : KG 32 (l.map Typ.d) d) (h' : KG 32 (m.map Typ.d) d') (hl : l.length < 140737488355328) (hf : ∀ t, t ∈ l → t.fits) : ML prg hand 3017 [d, d'] = some (0, [.v (.bool (eqL typEq l m))]) := by
 rw [eq3017]
 unfold tr3017
 simp only [dentL, dv, List.map_cons, List.map_nil, List.cons_append, List.nil_append, List.getD_cons_zero, List.getD_cons_succ, Option.bind_some, bNeI, brB, mlen h, mlen h']
 refine cmp_fin typEq l m (fun he i a b hi ha hb => ?_) fun he => ?_
 · have h19 := t3019 (hand := hand) (y := b) (hf a (List.mem_of_getElem? ha))
   simp only [Typ.c, List.cons_append, List.nil_append] at h19
   unfold tr3017_b1
   simp only [dentL, dv, ixD, List.map_cons, List.map_nil, List.cons_append, List.nil_append, List.append_assoc, List.getD_cons_zero, List.getD_cons_succ, if_true, Option.bind_some, Option.map_some, uNot, brB, cond_true, Int.toNat_natCast, ltY hi, mbnd h hi, mbnd h' (he ▸ hi), ldTy h ha, ldTy h' hb, h19, addN (Nat.lt_trans hi hl)]
   exact iteB _ _ _
 · unfold tr3017_b1
   simp only [dentL, dv, ixD, List.map_cons, List.map_nil, List.cons_append, List.nil_append, List.append_assoc, List.getD_cons_zero, List.getD_cons_succ, if_false, Bool.false_eq_true, Option.bind_some, Option.map_some, brB, Int.toNat_natCast, ltN]
end X
end Go.Proofs.YtmjmpaceopipbaaGreat
namespace Go.Proofs.YtmjmpaceopipbaaGreat
namespace X
open Go B Go.Proofs
variable {hand : FunT}
theorem Tm.c (o t n : Int) (s : ByteArray) (p : Option (List D)) (l : List Tm) : (Tm.mk o t n s p l).cells = [.v (.int .u8 o), .v (.int .i64 t), .v (.int .i64 n), .v (.string s), wrapE 37 p (l.map Tm.d)] := by rw [Tm.cells, cellsT_map]
theorem t3014 {l m : List Tm} {d d' : D} (h : KG 37 (l.map Tm.d) d) (h' : KG 37 (m.map Tm.d) d') (hl : l.length < 140737488355328) (ih : ∀ a, a ∈ l → ∀ b, ML prg hand 3013 (a.cells ++ b.cells) = some (0, [.v (.bool (tmEq a b))])) :
    ML prg hand 3014 [d, d'] = some (0, [.v (.bool (eqL tmEq l m))]) := by
 rw [eq3014]
 unfold tr3014
 simp only [dentL, dv, List.map_cons, List.map_nil, List.cons_append, List.nil_append, List.getD_cons_zero, List.getD_cons_succ, Option.bind_some, bNeI, brB, mlen h, mlen h']
 refine cmp_fin tmEq l m (fun he i a b hi ha hb => ?_) fun he => ?_
 · have h13 := ih a (List.mem_of_getElem? ha) b
   cases a with
   | mk o t n s p k =>
   cases b with
   | mk o' t' n' s' p' k' =>
   simp only [Tm.c, List.cons_append, List.nil_append] at h13
   unfold tr3014_b1
   simp only [dentL, dv, ixD, List.map_cons, List.map_nil, List.cons_append, List.nil_append, List.append_assoc, List.getD_cons_zero, List.getD_cons_succ, if_true, Option.bind_some, Option.map_some, uNot, brB, cond_true, Int.toNat_natCast, ltY hi, mbnd h hi, mbnd h' (he ▸ hi), ldTm h ha, ldTm h' hb, h13, addN (Nat.lt_trans hi hl)]
   exact iteB _ _ _
 · unfold tr3014_b1
   simp only [dentL, dv, ixD, List.map_cons, List.map_nil, List.cons_append, List.nil_append, List.append_assoc, List.getD_cons_zero, List.getD_cons_succ, if_false, Bool.false_eq_true, Option.bind_some, Option.map_some, brB, Int.toNat_natCast, ltN]
theorem t3013 : ∀ (x : Tm), x.fits → ∀ y : Tm, ML prg hand 3013 (x.cells ++ y.cells) = some (0, [.v (.bool (tmEq x y))]) := by
 apply Tm.ind
 intro o t n s p l ih hf y
 cases y with
 | mk o' t' n' s' p' l' =>
 rw [Tm.fits] at hf
 have h14 := t3014 (hand := hand) (KG_wrap 37 p (l.map Tm.d)) (KG_wrap 37 p' (l'.map Tm.d)) hf.1 fun a ha b => ih a ha (fitsT_mem hf.2 ha) b
 rw [eq3013, tmEq_mk]
 unfold tr3013
 simp only [Tm.c, dentL, dv, List.map_cons, List.map_nil, List.cons_append, List.nil_append, List.getD_cons_zero, List.getD_cons_succ, Option.bind_some, bEqU8, bEqI, bEqL, bEqS, brB, h14]
 cases decide (o = o') <;> cases decide (t = t') <;> cases decide (n = n') <;> cases strBeq s s' <;> rfl
theorem t3024 : ∀ (x : Tm), x.fits → ∀ y : Tm, ML prg hand 3024 (x.cells ++ y.cells) = some (0, [.v (.bool (tmEq x y))]) := by
 apply Tm.ind
 intro o t n s p l ih hf y
 cases y with
 | mk o' t' n' s' p' l' =>
 rw [Tm.fits] at hf
 have h := KG_wrap 37 p (l.map Tm.d)
 have h' := KG_wrap 37 p' (l'.map Tm.d)
 rw [eq3024, tmEq_mk]
 unfold tr3024
 simp only [Tm.c, dentL, dv, List.map_cons, List.map_nil, List.cons_append, List.nil_append, List.getD_cons_zero, List.getD_cons_succ, Option.bind_some, bNeU8, bNeI, bNeL, bNeS, brB, mlen h, mlen h']
 cases decide (o = o')
 · rfl
 cases decide (t = t')
 · rfl
 cases decide (n = n')
 · rfl
 cases strBeq s s'
 · rfl
 simp only [Bool.not_true, Bool.false_eq_true, if_false, Bool.true_and]
 refine cmp_fin tmEq l l' (fun he i a b hi ha hb => ?_) fun he => ?_
 · have h13 := ih a (List.mem_of_getElem? ha) (fitsT_mem hf.2 (List.mem_of_getElem? ha)) b
   cases a with
   | mk o t n s p k =>
   cases b with
   | mk o' t' n' s' p' k' =>
   simp only [Tm.c, List.cons_append, List.nil_append] at h13
   unfold tr3024_b1
   simp only [dentL, dv, ixD, List.map_cons, List.map_nil, List.cons_append, List.nil_append, List.append_assoc, List.getD_cons_zero, List.getD_cons_succ, if_true, Option.bind_some, Option.map_some, uNot, brB, cond_true, Int.toNat_natCast, mlen h, ltY hi, mbnd h hi, mbnd h' (he ▸ hi), ldTm h ha, ldTm h' hb, h13, addN (Nat.lt_trans hi hf.1)]
   exact iteB _ _ _
 · unfold tr3024_b1
   simp only [dentL, dv, ixD, List.map_cons, List.map_nil, List.cons_append, List.nil_append, List.append_assoc, List.getD_cons_zero, List.getD_cons_succ, if_false, Bool.false_eq_true, Option.bind_some, Option.map_some, brB, Int.toNat_natCast, mlen h, ltN]
theorem t3020 {x y : Fnc} (hx : x.fits) : ML prg hand 3020 (x.cells ++ y.cells) = some (0, [.v (.bool (fncEq x y))]) := by
 obtain ⟨f1, f2, f3, f4⟩ := hx
 have h1 := t3015 (hand := hand) (KG_wrap 3 x.pp (x.ps.map dInt)) (KG_wrap 3 y.pp (y.ps.map dInt)) f1
 have h2 := t3015 (hand := hand) (KG_wrap 3 x.rp (x.rs.map dInt)) (KG_wrap 3 y.rp (y.rs.map dInt)) f2
 have h3 := t3015 (hand := hand) (KG_wrap 3 x.sp (x.ss.map dInt)) (KG_wrap 3 y.sp (y.ss.map dInt)) f3
 have h4 := t3013 (hand := hand) x.b f4 y.b
 unfold fncEq
 cases hb : x.b with
 | mk o t n s p k =>
 cases hb' : y.b with
 | mk o' t' n' s' p' k' =>
 rw [hb, hb'] at h4
 rw [Fnc.cells_row hb, Fnc.cells_row hb', eq3020]
 simp only [Tm.c, List.cons_append, List.nil_append] at h4
 unfold tr3020 Fnc.row
 simp only [dentL, dv, List.map_cons, List.map_nil, List.cons_append, List.nil_append, List.append_assoc, List.getD_cons_zero, List.getD_cons_succ, Option.bind_some, bEqS, brB, h1, h2, h3, h4]
 cases strBeq x.n y.n <;> cases eqL intEq x.ps y.ps <;> cases eqL intEq x.rs y.rs <;> cases eqL intEq x.ss y.ss <;> rfl
theorem t3018 {l m : List Fnc} {d d' : D} (h : KG 39 (l.map Fnc.d) d) (h' : KG 39 (m.map Fnc.d) d') (hl : l.length < 140737488355328) (hf : ∀ t, t ∈ l → t.fits) : ML prg hand 3018 [d, d'] = some (0, [.v (.bool (eqL fncEq l m))]) := by
 rw [eq3018]
 unfold tr3018
 simp only [dentL, dv, List.map_cons, List.map_nil, List.cons_append, List.nil_append, List.getD_cons_zero, List.getD_cons_succ, Option.bind_some, bNeI, brB, mlen h, mlen h']
 refine cmp_fin fncEq l m (fun he i a b hi ha hb => ?_) fun he => ?_
 · have h20 := t3020 (hand := hand) (y := b) (hf a (List.mem_of_getElem? ha))
   cases ea : a.b with
   | mk o t n s p k =>
   cases eb : b.b with
   | mk o' t' n' s' p' k' =>
   rw [Fnc.cells_row ea, Fnc.cells_row eb] at h20
   unfold Fnc.row at h20
   simp only [List.cons_append, List.nil_append] at h20
   unfold tr3018_b1
   simp only [dentL, dv, ixD, List.map_cons, List.map_nil, List.cons_append, List.nil_append, List.append_assoc, List.getD_cons_zero, List.getD_cons_succ, if_true, Option.bind_some, Option.map_some, uNot, brB, cond_true, Int.toNat_natCast, ltY hi, mbnd h hi, mbnd h' (he ▸ hi), ldFn h ha ea, ldFn h' hb eb, h20, addN (Nat.lt_trans hi hl)]
   exact iteB _ _ _
 · unfold tr3018_b1
   simp only [dentL, dv, ixD, List.map_cons, List.map_nil, List.cons_append, List.nil_append, List.append_assoc, List.getD_cons_zero, List.getD_cons_succ, if_false, Bool.false_eq_true, Option.bind_some, Option.map_some, brB, Int.toNat_natCast, ltN]
theorem t3021 {x y : Pro} (hx : x.fits) : ML prg hand 3021 (x.cells ++ y.cells) = some (0, [.v (.bool (proEq x y))]) := by
 obtain ⟨f1, f2, f3, f4⟩ := hx
 have h1 := t3017 (hand := hand) (KG_wrap 32 x.tp (x.ts.map Typ.d)) (KG_wrap 32 y.tp (y.ts.map Typ.d)) f1 f3
 have h2 := t3018 (hand := hand) (KG_wrap 39 x.fp (x.fs.map Fnc.d)) (KG_wrap 39 y.fp (y.fs.map Fnc.d)) f2 f4
 rw [eq3021]
 unfold tr3021 Pro.cells proEq
 simp only [dentL, dv, List.map_cons, List.map_nil, List.cons_append, List.nil_append, List.getD_cons_zero, List.getD_cons_succ, Option.bind_some, brB, h1, h2]
 cases eqL typEq x.ts y.ts <;> rfl
theorem t3025 {x y : Pro} (hx : x.fits) : ML prg hand 3025 (x.cells ++ y.cells) = some (0, [.v (.bool (proEq x y))]) := by
 obtain ⟨f1, f2, f3, f4⟩ := hx
 have h := KG_wrap 32 x.tp (x.ts.map Typ.d)
 have h' := KG_wrap 32 y.tp (y.ts.map Typ.d)
 have g := KG_wrap 39 x.fp (x.fs.map Fnc.d)
 have g' := KG_wrap 39 y.fp (y.fs.map Fnc.d)
 rw [eq3025]
 unfold tr3025 Pro.cells proEq
 simp only [dentL, dv, List.map_cons, List.map_nil, List.cons_append, List.nil_append, List.getD_cons_zero, List.getD_cons_succ, Option.bind_some, bNeI, brB, mlen h, mlen h', mlen g, mlen g']
 by_cases hn : x.ts.length = y.ts.length
 case neg =>
  have e1 : decide ((x.ts.length : Int) = (y.ts.length : Int)) = false := by simp; omega
  have e2 : decide (x.ts.length = y.ts.length) = false := by simp [hn]
  rw [e1]; unfold eqL; rw [e2]; rfl
 have e1 : decide ((x.ts.length : Int) = (y.ts.length : Int)) = true := by simp [hn]
 by_cases hm : x.fs.length = y.fs.length
 case neg =>
  have e3 : decide ((x.fs.length : Int) = (y.fs.length : Int)) = false := by simp; omega
  have e4 : decide (x.fs.length = y.fs.length) = false := by simp [hm]
  have : eqL fncEq x.fs y.fs = false := by unfold eqL; rw [e4]; rfl
  rw [e1, e3, this]; cases eqL typEq x.ts y.ts <;> rfl
 have e3 : decide ((x.fs.length : Int) = (y.fs.length : Int)) = true := by simp [hm]
 have key := cmp_out (oF := .fin 0 [.v (.bool false)]) (oT := (if eqL fncEq x.fs y.fs then Out.fin 0 [.v (.bool true)] else .fin 0 [.v (.bool false)])) typEq x.ts y.ts (f := fun v => dentL theTabs (ML prg hand) tr3025_b1 (wrapE 32 x.tp (x.ts.map Typ.d) :: wrapE 39 x.fp (x.fs.map Fnc.d) :: wrapE 32 y.tp (y.ts.map Typ.d) :: wrapE 39 y.fp (y.fs.map Fnc.d) :: .v (.int .i64 (x.ts.length : Int)) :: .v (.int .i64 (y.ts.length : Int)) :: .v (.bool (!decide ((x.ts.length : Int) = (y.ts.length : Int)))) :: .v (.int .i64 (x.fs.length : Int)) :: .v (.int .i64 (y.fs.length : Int)) :: .v (.bool (!decide ((x.fs.length : Int) = (y.fs.length : Int)))) :: v)) (fun he i a b hi ha hb => ?_) fun he => ?_
 · rw [e1, e3] at key ⊢
   simp only [Bool.not_true, Bool.false_eq_true, if_false] at key ⊢
   rw [key]
   cases eqL typEq x.ts y.ts <;> cases eqL fncEq x.fs y.fs <;> rfl
 · have h22 := t3022 (hand := hand) (y := b) (f3 a (List.mem_of_getElem? ha))
   simp only [Typ.c, List.cons_append, List.nil_append] at h22
   unfold tr3025_b1
   simp only [dentL, dv, ixD, List.map_cons, List.map_nil, List.cons_append, List.nil_append, List.append_assoc, List.getD_cons_zero, List.getD_cons_succ, if_true, Option.bind_some, Option.map_some, uNot, brB, cond_true, Int.toNat_natCast, mlen h, ltY hi, mbnd h hi, mbnd h' (he ▸ hi), ldTy h ha, ldTy h' hb, h22, addN (Nat.lt_trans hi f1)]
   exact iteB _ _ _
 · unfold tr3025_b1
   simp only [dentL, dv, ixD, List.map_cons, List.map_nil, List.cons_append, List.nil_append, List.append_assoc, List.getD_cons_zero, List.getD_cons_succ, if_false, Bool.false_eq_true, Option.bind_some, Option.map_some, brB, Int.toNat_natCast, mlen h, ltN]
   have key2 := cmp_out (oF := .fin 0 [.v (.bool false)]) (oT := .fin 0 [.v (.bool true)]) fncEq x.fs y.fs (f := fun v => dentL theTabs (ML prg hand) tr3025_b2 (wrapE 32 x.tp (x.ts.map Typ.d) :: wrapE 39 x.fp (x.fs.map Fnc.d) :: wrapE 32 y.tp (y.ts.map Typ.d) :: wrapE 39 y.fp (y.fs.map Fnc.d) :: .v (.int .i64 (x.ts.length : Int)) :: .v (.int .i64 (y.ts.length : Int)) :: .v (.bool (!decide ((x.ts.length : Int) = (y.ts.length : Int)))) :: .v (.int .i64 (x.fs.length : Int)) :: .v (.int .i64 (y.fs.length : Int)) :: .v (.bool (!decide ((x.fs.length : Int) = (y.fs.length : Int)))) :: .v (.int .i64 (x.ts.length : Int)) :: .v (.int .i64 (x.ts.length : Int)) :: .v (.bool false) :: v)) (fun he i a b hi ha hb => ?_) fun he => ?_
   · rw [e3] at key2 ⊢
     simp only [Bool.not_true, Bool.false_eq_true, if_false] at key2 ⊢
     rw [key2]; rfl
   · have i1 := t3023 (hand := hand) (KG_wrap 3 a.pp (a.ps.map dInt)) (KG_wrap 3 b.pp (b.ps.map dInt)) (f4 a (List.mem_of_getElem? ha)).1
     have i2 := t3023 (hand := hand) (KG_wrap 3 a.rp (a.rs.map dInt)) (KG_wrap 3 b.rp (b.rs.map dInt)) (f4 a (List.mem_of_getElem? ha)).2.1
     have i3 := t3023 (hand := hand) (KG_wrap 3 a.sp (a.ss.map dInt)) (KG_wrap 3 b.sp (b.ss.map dInt)) (f4 a (List.mem_of_getElem? ha)).2.2.1
     have i4 := t3024 (hand := hand) a.b (f4 a (List.mem_of_getElem? ha)).2.2.2 b.b
     unfold fncEq
     cases ea : a.b with
     | mk o t n s p k =>
     cases eb : b.b with
     | mk o' t' n' s' p' k' =>
     rw [ea, eb] at i4
     simp only [Tm.c, List.cons_append, List.nil_append] at i4
     unfold tr3025_b2
     simp only [dentL, dv, ixD, List.map_cons, List.map_nil, List.cons_append, List.nil_append, List.append_assoc, List.getD_cons_zero, List.getD_cons_succ, if_true, Option.bind_some, Option.map_some, bNeS, uNot, brB, cond_true, Int.toNat_natCast, mlen g, ltY hi, mbnd g hi, mbnd g' (he ▸ hi), ldFn g ha ea, ldFn g' hb eb, i1, i2, i3, i4, addN (Nat.lt_trans hi f2)]
     cases strBeq a.n b.n <;> cases eqL intEq a.ps b.ps <;> cases eqL intEq a.rs b.rs <;> cases eqL intEq a.ss b.ss <;> (try rfl)
     simp only [Bool.not_true, Bool.false_eq_true, if_false, Bool.true_and]
     exact iteB _ _ _
   · unfold tr3025_b2
     simp only [dentL, dv, ixD, List.map_cons, List.map_nil, List.cons_append, List.nil_append, List.append_assoc, List.getD_cons_zero, List.getD_cons_succ, if_false, Bool.false_eq_true, Option.bind_some, Option.map_some, brB, Int.toNat_natCast, mlen g, ltN]
end X
end Go.Proofs.YtmjmpaceopipbaaGreat
namespace Go.Proofs.YtmjmpaceopipbaaGreat
namespace X
open Go B Go.Proofs
variable {hand : FunT}
mutual
def Tm.small (k : Nat) : Tm → Prop
 | .mk _ _ _ _ _ l => l.length ≤ k ∧ smallT k l
def smallT (k : Nat) : List Tm → Prop
 | [] => True
 | t :: l => t.small k ∧ smallT k l
end
theorem smallT_mem {k : Nat} : ∀ {l : List Tm} {t : Tm}, smallT k l → t ∈ l → t.small k
 | u :: l, t, h, ht => by
  rw [smallT] at h
  rcases List.mem_cons.1 ht with e | ht
  · rw [e]; exact h.1
  · exact smallT_mem h.2 ht
 | [], t, _, ht => by cases ht
theorem smallT_all {k : Nat} : ∀ {l : List Tm}, (∀ t, t ∈ l → t.small k) → smallT k l
 | [], _ => by rw [smallT]; trivial
 | t :: l, h => by rw [smallT]; exact ⟨h t (by simp), smallT_all fun u hu => h u (by simp [hu])⟩
def Fnc.small (f : Fnc) : Prop := f.ps.length ≤ 5000 ∧ f.rs.length ≤ 5000 ∧ f.ss.length ≤ 5000 ∧ f.b.small 5000
def Pro.small (p : Pro) : Prop := p.ts.length ≤ 5000 ∧ p.fs.length ≤ 5000 ∧ (∀ t, t ∈ p.ts → t.fs.length ≤ 5000) ∧ ∀ f, f ∈ p.fs → f.small
theorem take_succ_get {α : Type} {l : List α} {i : Nat} {a : α} (h : l[i]? = some a) : l.take (i + 1) = l.take i ++ [a] := by
 rw [List.take_add_one, h]; rfl
theorem t3001 (k : Nat) (hk : k ≤ 1000000) : ∀ t : Tm, t.fits → ∃ r : Nat, ML prg hand 3001 (t.cells ++ [.v (.int .i64 (k : Int))]) = some (0, [.v (.int .i64 (r : Int))]) ∧ 1 ≤ r ∧ r ≤ k + 1 ∧ (r ≤ k → t.small k) := by
 apply Tm.ind
 intro o t n s p l ih hf
 rw [Tm.fits] at hf
 have h := KG_wrap 37 p (l.map Tm.d)
 have aK : binD theTabs .add 3 (.v (.int .i64 (k : Int))) (.v (.int .i64 1)) = some (.v (.int .i64 ((k + 1 : Nat) : Int))) := addN (by omega)
 have key : ∃ oo, iterL (fun v => dentL theTabs (ML prg hand) tr3001_b1 ((Tm.mk o t n s p l).cells ++ [.v (.int .i64 (k : Int))] ++ v)) [.v (.int .i64 1), .v (.int .i64 0)] = some oo ∧ ∃ r : Nat, oo = .fin 0 [.v (.int .i64 (r : Int))] ∧ 1 ≤ r ∧ r ≤ k + 1 ∧ (r ≤ k → (Tm.mk o t n s p l).small k) := by
  refine iterL_inv (I := fun i v => ∃ S : Nat, v = [.v (.int .i64 (S : Int)), .v (.int .i64 (i : Int))] ∧ i ≤ l.length ∧ 1 + i ≤ S ∧ S ≤ 2 * k + 1 ∧ (S ≤ k → ∀ u, u ∈ l.take i → u.small k)) l.length ⟨1, rfl, Nat.zero_le _, Nat.le_refl _, by omega, fun _ f hf => by simp at hf⟩ (fun i v hI => ?_)
  obtain ⟨S, rfl, h1, h2, h3, h4⟩ := hI
  unfold tr3001_b1
  by_cases hi : i < l.length
  · obtain ⟨u, hu⟩ : ∃ f, l[i]? = some f := ⟨_, List.getElem?_eq_getElem hi⟩
    have hmem := List.mem_of_getElem? hu
    by_cases hS : S ≤ k
    · have e1 : decide ((S : Int) ≤ (k : Int)) = true := by simp; omega
      obtain ⟨r, r1, r2, r3, r4⟩ := ih u hmem (fitsT_mem hf.2 hmem)
      cases u with
      | mk o' t' n' s' p' k' =>
      simp only [Tm.c, List.cons_append, List.nil_append] at r1
      have a1 : binD theTabs .add 3 (.v (.int .i64 (S : Int))) (.v (.int .i64 (r : Int))) = some (.v (.int .i64 ((S + r : Nat) : Int))) := bAddI (by rw [wrap_i64] <;> omega)
      refine .inl ⟨[.v (.int .i64 ((S + r : Nat) : Int)), .v (.int .i64 ((i + 1 : Nat) : Int))], ?_, ⟨_, rfl, hi, by omega, by omega, fun hs g hg => ?_⟩, hi⟩
      · simp only [Tm.c, dentL, dv, ixD, List.map_cons, List.map_nil, List.cons_append, List.nil_append, List.append_assoc, List.getD_cons_zero, List.getD_cons_succ, if_true, Option.bind_some, brB, cond_true, Int.toNat_natCast, mlen h, ltY hi, bLeI, e1, mbnd h hi, ldTm h hu, r1, a1, addN (Nat.lt_trans hi hf.1)]
      · rw [take_succ_get hu] at hg
        rcases List.mem_append.1 hg with hg | hg
        · exact h4 (by omega) g hg
        · rw [List.mem_singleton] at hg
          subst hg
          exact r4 (by omega)
    · have e1 : decide ((S : Int) ≤ (k : Int)) = false := by simp; omega
      have e2 : (if ((k + 1 : Nat) : Int) < (S : Int) then ((k + 1 : Nat) : Int) else (S : Int)) = ((k + 1 : Nat) : Int) := by split <;> omega
      refine .inr ⟨.fin 0 [.v (.int .i64 ((k + 1 : Nat) : Int))], ?_, k + 1, rfl, by omega, by omega, fun h => by omega⟩
      simp only [Tm.c, dentL, dv, ixD, List.map_cons, List.map_nil, List.cons_append, List.nil_append, List.append_assoc, List.getD_cons_zero, List.getD_cons_succ, if_true, if_false, Bool.false_eq_true, Option.bind_some, Option.map_some, brB, Int.toNat_natCast, mlen h, ltY hi, bLeI, e1, aK, minI, e2]
  · obtain rfl : i = l.length := by omega
    by_cases hS : S ≤ k
    · have e2 : (if ((k + 1 : Nat) : Int) < (S : Int) then ((k + 1 : Nat) : Int) else (S : Int)) = (S : Int) := by rw [if_neg]; omega
      refine .inr ⟨.fin 0 [.v (.int .i64 (S : Int))], ?_, S, rfl, by omega, by omega, fun h => ?_⟩
      · simp only [Tm.c, dentL, dv, ixD, List.map_cons, List.map_nil, List.cons_append, List.nil_append, List.append_assoc, List.getD_cons_zero, List.getD_cons_succ, if_false, Bool.false_eq_true, Option.bind_some, Option.map_some, brB, Int.toNat_natCast, mlen h, ltN, aK, minI, e2]
      · rw [Tm.small]
        exact ⟨by omega, smallT_all fun u hu => h4 hS u (by rw [List.take_length]; exact hu)⟩
    · have e2 : (if ((k + 1 : Nat) : Int) < (S : Int) then ((k + 1 : Nat) : Int) else (S : Int)) = ((k + 1 : Nat) : Int) := by split <;> omega
      refine .inr ⟨.fin 0 [.v (.int .i64 ((k + 1 : Nat) : Int))], ?_, k + 1, rfl, by omega, by omega, fun h => by omega⟩
      simp only [Tm.c, dentL, dv, ixD, List.map_cons, List.map_nil, List.cons_append, List.nil_append, List.append_assoc, List.getD_cons_zero, List.getD_cons_succ, if_false, Bool.false_eq_true, Option.bind_some, Option.map_some, brB, Int.toNat_natCast, mlen h, ltN, aK, minI, e2]
 obtain ⟨oo, k1, r, rfl, r2, r3, r4⟩ := key
 refine ⟨r, ?_, r2, r3, r4⟩
 rw [eq3001]
 unfold tr3001
 rw [dentL_loop]
 exact congrArg finO k1
section
variable {i : Nat} {d : D} {l : List Fnc} {f : Fnc}
theorem ldFB (h : KG 39 (l.map Fnc.d) d) (ha : l[i]? = some f) {o t n : Int} {s : ByteArray} {p : Option (List D)} {k : List Tm} (hb : f.b = .mk o t n s p k) : ldD 39 d i 4 [true, true, true, true, false] = some [.v (.int .u8 o), .v (.int .i64 t), .v (.int .i64 n), .v (.string s), wrapE 37 p (k.map Tm.d)] :=
 mld h ha (by unfold Fnc.d D.cells; dsimp only; rw [Fnc.cells_row hb]; rfl) rfl
theorem ldFP (h : KG 39 (l.map Fnc.d) d) (ha : l[i]? = some f) : ldD 39 d i 1 [false] = some [wrapE 3 f.pp (f.ps.map dInt)] := mld h ha rfl rfl
theorem ldFR (h : KG 39 (l.map Fnc.d) d) (ha : l[i]? = some f) : ldD 39 d i 2 [false] = some [wrapE 3 f.rp (f.rs.map dInt)] := mld h ha rfl rfl
theorem ldFS (h : KG 39 (l.map Fnc.d) d) (ha : l[i]? = some f) : ldD 39 d i 3 [false] = some [wrapE 3 f.sp (f.ss.map dInt)] := mld h ha rfl rfl
end
theorem ldTF {i : Nat} {d : D} {l : List Typ} {t : Typ} (h : KG 32 (l.map Typ.d) d) (ha : l[i]? = some t) : ldD 32 d i 2 [false] = some [wrapE 45 t.fp (t.fs.map Fld.d)] := mld h ha rfl rfl
theorem lp2 {ts : D} {l : List Fnc} {d : D} (h : KG 39 (l.map Fnc.d) d) (hl : l.length < 140737488355328) (hf : ∀ f, f ∈ l → f.fits) {S0 : Nat} (hS0 : S0 < 1125899906842624) (z3 z4 z5 z6 z7 z8 z9 z10 : D) :
    ∃ o, iterL (fun v => dentL theTabs (ML prg hand) tr3002_b2 (ts :: d :: .v (.int .i64 5000) :: z3 :: z4 :: z5 :: z6 :: z7 :: z8 :: z9 :: z10 :: v)) [.v (.int .i64 (S0 : Int)), .v (.int .i64 0)] = some o ∧ ∃ b, o = .fin 0 [.v (.bool b)] ∧ (b = true → S0 ≤ 5000 ∧ ∀ f, f ∈ l → f.small) := by
 refine iterL_inv (I := fun i v => ∃ S : Nat, v = [.v (.int .i64 (S : Int)), .v (.int .i64 (i : Int))] ∧ i ≤ l.length ∧ S0 ≤ S ∧ S < 1125899906842624 ∧ (S ≤ 5000 → ∀ f, f ∈ l.take i → f.small)) l.length ⟨S0, rfl, Nat.zero_le _, Nat.le_refl _, hS0, fun _ f hf => by simp at hf⟩ (fun i v hI => ?_)
 obtain ⟨S, rfl, h1, h2, h3, h4⟩ := hI
 unfold tr3002_b2
 by_cases hi : i < l.length
 · obtain ⟨f, hfi⟩ : ∃ f, l[i]? = some f := ⟨_, List.getElem?_eq_getElem hi⟩
   have hmem := List.mem_of_getElem? hfi
   obtain ⟨q1, q2, q3, q4⟩ := hf f hmem
   by_cases hS : S ≤ 5000
   · have e1 : decide ((S : Int) ≤ 5000) = true := by simp; omega
     obtain ⟨r, r1, r2, r3, r4⟩ := t3001 (hand := hand) 5000 (by omega) f.b q4
     rw [show ((5000 : Nat) : Int) = 5000 from rfl] at r1
     cases eb : f.b with
     | mk o t n s p k =>
     rw [eb] at r1 r4
     simp only [Tm.c, List.cons_append, List.nil_append] at r1
     have k1 := KG_wrap 3 f.pp (f.ps.map dInt)
     have k2 := KG_wrap 3 f.rp (f.rs.map dInt)
     have k3 := KG_wrap 3 f.sp (f.ss.map dInt)
     have a1 : binD theTabs .add 3 (.v (.int .i64 (S : Int))) (.v (.int .i64 (r : Int))) = some (.v (.int .i64 ((S + r : Nat) : Int))) := bAddI (by rw [wrap_i64] <;> omega)
     have a2 : binD theTabs .add 3 (.v (.int .i64 ((S + r : Nat) : Int))) (.v (.int .i64 (f.ss.length : Int))) = some (.v (.int .i64 ((S + r + f.ss.length : Nat) : Int))) := bAddI (by rw [wrap_i64] <;> omega)
     have a3 : binD theTabs .add 3 (.v (.int .i64 ((S + r + f.ss.length : Nat) : Int))) (.v (.int .i64 (f.ps.length : Int))) = some (.v (.int .i64 ((S + r + f.ss.length + f.ps.length : Nat) : Int))) := bAddI (by rw [wrap_i64] <;> omega)
     have a4 : binD theTabs .add 3 (.v (.int .i64 ((S + r + f.ss.length + f.ps.length : Nat) : Int))) (.v (.int .i64 (f.rs.length : Int))) = some (.v (.int .i64 ((S + r + f.ss.length + f.ps.length + f.rs.length : Nat) : Int))) := bAddI (by rw [wrap_i64] <;> omega)
     refine .inl ⟨[.v (.int .i64 ((S + r + f.ss.length + f.ps.length + f.rs.length : Nat) : Int)), .v (.int .i64 ((i + 1 : Nat) : Int))], ?_, ⟨_, rfl, hi, by omega, by omega, fun hs g hg => ?_⟩, hi⟩
     · simp only [dentL, dv, ixD, List.map_cons, List.map_nil, List.cons_append, List.nil_append, List.append_assoc, List.getD_cons_zero, List.getD_cons_succ, if_true, Option.bind_some, Option.map_some, brB, cond_true, Int.toNat_natCast, mlen h, ltY hi, bLeI, e1, mbnd h hi, ldFB h hfi eb, ldFS h hfi, ldFP h hfi, ldFR h hfi, mlen k1, mlen k2, mlen k3, r1, a1, a2, a3, a4, addN (Nat.lt_trans hi hl)]
     · rw [take_succ_get hfi] at hg
       rcases List.mem_append.1 hg with hg | hg
       · exact h4 (by omega) g hg
       · rw [List.mem_singleton] at hg
         subst hg
         exact ⟨by omega, by omega, by omega, by rw [eb]; exact r4 (by omega)⟩
   · have e1 : decide ((S : Int) ≤ 5000) = false := by simp; omega
     refine .inr ⟨.fin 0 [.v (.bool false)], ?_, false, rfl, fun h => by cases h⟩
     simp only [dentL, dv, ixD, List.map_cons, List.map_nil, List.cons_append, List.nil_append, List.append_assoc, List.getD_cons_zero, List.getD_cons_succ, if_true, if_false, Bool.false_eq_true, Option.bind_some, Option.map_some, brB, Int.toNat_natCast, mlen h, ltY hi, bLeI, e1]
 · obtain rfl : i = l.length := by omega
   refine .inr ⟨.fin 0 [.v (.bool (decide ((S : Int) ≤ 5000)))], ?_, _, rfl, fun hb => ?_⟩
   · simp only [dentL, dv, ixD, List.map_cons, List.map_nil, List.cons_append, List.nil_append, List.append_assoc, List.getD_cons_zero, List.getD_cons_succ, if_false, Bool.false_eq_true, Option.bind_some, Option.map_some, brB, Int.toNat_natCast, mlen h, ltN, bLeI]
   · have hS : S ≤ 5000 := by have := of_decide_eq_true hb; omega
     exact ⟨by omega, fun f hf => h4 hS f (by rw [List.take_length]; exact hf)⟩
theorem lp3 {ts : D} {l : List Fnc} {d : D} (h : KG 39 (l.map Fnc.d) d) (hl : l.length < 140737488355328) (hf : ∀ f, f ∈ l → f.fits) {S0 : Nat} (hS0 : S0 < 1125899906842624) (z3 z4 z5 z6 z7 z8 z9 : D) :
    ∃ o, iterL (fun v => dentL theTabs (ML prg hand) tr3002_b3 (ts :: d :: .v (.int .i64 5000) :: z3 :: z4 :: z5 :: z6 :: z7 :: z8 :: z9 :: v)) [.v (.int .i64 (S0 : Int)), .v (.int .i64 0)] = some o ∧ ∃ b, o = .fin 0 [.v (.bool b)] ∧ (b = true → S0 ≤ 5000 ∧ ∀ f, f ∈ l → f.small) := by
 refine iterL_inv (I := fun i v => ∃ S : Nat, v = [.v (.int .i64 (S : Int)), .v (.int .i64 (i : Int))] ∧ i ≤ l.length ∧ S0 ≤ S ∧ S < 1125899906842624 ∧ (S ≤ 5000 → ∀ f, f ∈ l.take i → f.small)) l.length ⟨S0, rfl, Nat.zero_le _, Nat.le_refl _, hS0, fun _ f hf => by simp at hf⟩ (fun i v hI => ?_)
 obtain ⟨S, rfl, h1, h2, h3, h4⟩ := hI
 unfold tr3002_b3
 by_cases hi : i < l.length
 · obtain ⟨f, hfi⟩ : ∃ f, l[i]? = some f := ⟨_, List.getElem?_eq_getElem hi⟩
   have hmem := List.mem_of_getElem? hfi
   obtain ⟨q1, q2, q3, q4⟩ := hf f hmem
   by_cases hS : S ≤ 5000
   · have e1 : decide ((S : Int) ≤ 5000) = true := by simp; omega
     obtain ⟨r, r1, r2, r3, r4⟩ := t3001 (hand := hand) 5000 (by omega) f.b q4
     rw [show ((5000 : Nat) : Int) = 5000 from rfl] at r1
     cases eb : f.b with
     | mk o t n s p k =>
     rw [eb] at r1 r4
     simp only [Tm.c, List.cons_append, List.nil_append] at r1
     have k1 := KG_wrap 3 f.pp (f.ps.map dInt)
     have k2 := KG_wrap 3 f.rp (f.rs.map dInt)
     have k3 := KG_wrap 3 f.sp (f.ss.map dInt)
     have a1 : binD theTabs .add 3 (.v (.int .i64 (S : Int))) (.v (.int .i64 (r : Int))) = some (.v (.int .i64 ((S + r : Nat) : Int))) := bAddI (by rw [wrap_i64] <;> omega)
     have a2 : binD theTabs .add 3 (.v (.int .i64 ((S + r : Nat) : Int))) (.v (.int .i64 (f.ss.length : Int))) = some (.v (.int .i64 ((S + r + f.ss.length : Nat) : Int))) := bAddI (by rw [wrap_i64] <;> omega)
     have a3 : binD theTabs .add 3 (.v (.int .i64 ((S + r + f.ss.length : Nat) : Int))) (.v (.int .i64 (f.ps.length : Int))) = some (.v (.int .i64 ((S + r + f.ss.length + f.ps.length : Nat) : Int))) := bAddI (by rw [wrap_i64] <;> omega)
     have a4 : binD theTabs .add 3 (.v (.int .i64 ((S + r + f.ss.length + f.ps.length : Nat) : Int))) (.v (.int .i64 (f.rs.length : Int))) = some (.v (.int .i64 ((S + r + f.ss.length + f.ps.length + f.rs.length : Nat) : Int))) := bAddI (by rw [wrap_i64] <;> omega)
     refine .inl ⟨[.v (.int .i64 ((S + r + f.ss.length + f.ps.length + f.rs.length : Nat) : Int)), .v (.int .i64 ((i + 1 : Nat) : Int))], ?_, ⟨_, rfl, hi, by omega, by omega, fun hs g hg => ?_⟩, hi⟩
     · simp only [dentL, dv, ixD, List.map_cons, List.map_nil, List.cons_append, List.nil_append, List.append_assoc, List.getD_cons_zero, List.getD_cons_succ, if_true, Option.bind_some, Option.map_some, brB, cond_true, Int.toNat_natCast, mlen h, ltY hi, bLeI, e1, mbnd h hi, ldFB h hfi eb, ldFS h hfi, ldFP h hfi, ldFR h hfi, mlen k1, mlen k2, mlen k3, r1, a1, a2, a3, a4, addN (Nat.lt_trans hi hl)]
     · rw [take_succ_get hfi] at hg
       rcases List.mem_append.1 hg with hg | hg
       · exact h4 (by omega) g hg
       · rw [List.mem_singleton] at hg
         subst hg
         exact ⟨by omega, by omega, by omega, by rw [eb]; exact r4 (by omega)⟩
   · have e1 : decide ((S : Int) ≤ 5000) = false := by simp; omega
     refine .inr ⟨.fin 0 [.v (.bool false)], ?_, false, rfl, fun h => by cases h⟩
     simp only [dentL, dv, ixD, List.map_cons, List.map_nil, List.cons_append, List.nil_append, List.append_assoc, List.getD_cons_zero, List.getD_cons_succ, if_true, if_false, Bool.false_eq_true, Option.bind_some, Option.map_some, brB, Int.toNat_natCast, mlen h, ltY hi, bLeI, e1]
 · obtain rfl : i = l.length := by omega
   refine .inr ⟨.fin 0 [.v (.bool (decide ((S : Int) ≤ 5000)))], ?_, _, rfl, fun hb => ?_⟩
   · simp only [dentL, dv, ixD, List.map_cons, List.map_nil, List.cons_append, List.nil_append, List.append_assoc, List.getD_cons_zero, List.getD_cons_succ, if_false, Bool.false_eq_true, Option.bind_some, Option.map_some, brB, Int.toNat_natCast, mlen h, ltN, bLeI]
   · have hS : S ≤ 5000 := by have := of_decide_eq_true hb; omega
     exact ⟨by omega, fun f hf => h4 hS f (by rw [List.take_length]; exact hf)⟩
theorem t3002 {p : Pro} (hp : p.fits) : ∃ b, ML prg hand 3002 (p.cells ++ [.v (.int .i64 5000)]) = some (0, [.v (.bool b)]) ∧ (b = true → p.small) := by
 obtain ⟨f1, f2, f3, f4⟩ := hp
 have h := KG_wrap 32 p.tp (p.ts.map Typ.d)
 have g := KG_wrap 39 p.fp (p.fs.map Fnc.d)
 have a0 : binD theTabs .add 3 (.v (.int .i64 (p.ts.length : Int))) (.v (.int .i64 (p.fs.length : Int))) = some (.v (.int .i64 ((p.ts.length + p.fs.length : Nat) : Int))) := bAddI (by rw [wrap_i64] <;> omega)
 have key : ∃ oo, iterL (fun v => dentL theTabs (ML prg hand) tr3002_b1 (wrapE 32 p.tp (p.ts.map Typ.d) :: wrapE 39 p.fp (p.fs.map Fnc.d) :: .v (.int .i64 5000) :: .v (.int .i64 (p.ts.length : Int)) :: .v (.int .i64 (p.fs.length : Int)) :: .v (.int .i64 ((p.ts.length + p.fs.length : Nat) : Int)) :: v)) [.v (.int .i64 ((p.ts.length + p.fs.length : Nat) : Int)), .v (.int .i64 0)] = some oo ∧ ∃ b, oo = .fin 0 [.v (.bool b)] ∧ (b = true → p.small) := by
  refine iterL_inv (I := fun i v => ∃ S : Nat, v = [.v (.int .i64 (S : Int)), .v (.int .i64 (i : Int))] ∧ i ≤ p.ts.length ∧ p.ts.length + p.fs.length ≤ S ∧ S < 1125899906842624 ∧ (S ≤ 5000 → ∀ t, t ∈ p.ts.take i → t.fs.length ≤ 5000)) p.ts.length ⟨_, rfl, Nat.zero_le _, Nat.le_refl _, by omega, fun _ f hf => by simp at hf⟩ (fun i v hI => ?_)
  obtain ⟨S, rfl, h1, h2, h3, h4⟩ := hI
  unfold tr3002_b1
  by_cases hi : i < p.ts.length
  · obtain ⟨t, ht⟩ : ∃ f, p.ts[i]? = some f := ⟨_, List.getElem?_eq_getElem hi⟩
    have hmem := List.mem_of_getElem? ht
    have hft : t.fs.length < 140737488355328 := f3 t hmem
    by_cases hS : S ≤ 5000
    · have e1 : decide ((S : Int) ≤ 5000) = true := by simp; omega
      have k1 := KG_wrap 45 t.fp (t.fs.map Fld.d)
      have a1 : binD theTabs .add 3 (.v (.int .i64 (S : Int))) (.v (.int .i64 (t.fs.length : Int))) = some (.v (.int .i64 ((S + t.fs.length : Nat) : Int))) := bAddI (by rw [wrap_i64] <;> omega)
      refine .inl ⟨[.v (.int .i64 ((S + t.fs.length : Nat) : Int)), .v (.int .i64 ((i + 1 : Nat) : Int))], ?_, ⟨_, rfl, hi, by omega, by omega, fun hs u hu => ?_⟩, hi⟩
      · simp only [dentL, dv, ixD, List.map_cons, List.map_nil, List.cons_append, List.nil_append, List.append_assoc, List.getD_cons_zero, List.getD_cons_succ, if_true, Option.bind_some, brB, cond_true, Int.toNat_natCast, mlen h, ltY hi, bLeI, e1, mbnd h hi, ldTF h ht, mlen k1, a1, addN (Nat.lt_trans hi f1)]
      · rw [take_succ_get ht] at hu
        rcases List.mem_append.1 hu with hu | hu
        · exact h4 (by omega) u hu
        · rw [List.mem_singleton] at hu
          subst hu
          omega
    · have e1 : decide ((S : Int) ≤ 5000) = false := by simp; omega
      obtain ⟨o, q1, b, rfl, q2⟩ := lp2 (hand := hand) (ts := wrapE 32 p.tp (p.ts.map Typ.d)) g f2 f4 h3 (.v (.int .i64 (p.ts.length : Int))) (.v (.int .i64 (p.fs.length : Int))) (.v (.int .i64 ((p.ts.length + p.fs.length : Nat) : Int))) (.v (.int .i64 (S : Int))) (.v (.int .i64 (i : Int))) (.v (.int .i64 (p.ts.length : Int))) (.v (.bool true)) (.v (.bool false))
      refine .inr ⟨_, ?_, b, rfl, fun hb => ?_⟩
      · simp only [dentL, dv, ixD, List.map_cons, List.map_nil, List.cons_append, List.nil_append, List.append_assoc, List.getD_cons_zero, List.getD_cons_succ, if_true, if_false, Bool.false_eq_true, Option.bind_some, brB, Int.toNat_natCast, mlen h, ltY hi, bLeI, e1]
        rw [q1]; rfl
      · have := (q2 hb).1; omega
  · obtain rfl : i = p.ts.length := by omega
    obtain ⟨o, q1, b, rfl, q2⟩ := lp3 (hand := hand) (ts := wrapE 32 p.tp (p.ts.map Typ.d)) g f2 f4 h3 (.v (.int .i64 (p.ts.length : Int))) (.v (.int .i64 (p.fs.length : Int))) (.v (.int .i64 ((p.ts.length + p.fs.length : Nat) : Int))) (.v (.int .i64 (S : Int))) (.v (.int .i64 (p.ts.length : Int))) (.v (.int .i64 (p.ts.length : Int))) (.v (.bool false))
    refine .inr ⟨_, ?_, b, rfl, fun hb => ?_⟩
    · simp only [dentL, dv, ixD, List.map_cons, List.map_nil, List.cons_append, List.nil_append, List.append_assoc, List.getD_cons_zero, List.getD_cons_succ, if_false, Bool.false_eq_true, Option.bind_some, brB, Int.toNat_natCast, mlen h, ltN]
      rw [q1]; rfl
    · obtain ⟨w1, w2⟩ := q2 hb
      exact ⟨by omega, by omega, fun t ht => h4 w1 t (by rw [List.take_length]; exact ht), w2⟩
 obtain ⟨oo, k1, b, rfl, kb⟩ := key
 refine ⟨b, ?_, kb⟩
 rw [eq3002]
 unfold tr3002 Pro.cells
 simp only [dentL, dv, List.map_cons, List.map_nil, List.cons_append, List.nil_append, List.getD_cons_zero, List.getD_cons_succ, Option.bind_some, mlen h, mlen g, a0]
 exact congrArg finO k1
end X
end Go.Proofs.YtmjmpaceopipbaaGreat
namespace Go.Proofs.YtmjmpaceopipbaaGreat
namespace X
open Go B Go.Proofs
variable {hand : FunT}
theorem wrapD_f (a : D) : wrapD false [a] = a := rfl
theorem wrapD_t (l : List D) : wrapD true l = .ag l := rfl
theorem outE_app (e : Nat) (l : List D) {m : List D} (h : m ≠ []) : D.sl e (l ++ m) [] = outE e (l ++ m) := (outE_cons (by cases m; exact absurd rfl h; simp)).symm
theorem lsl_out {e : Nat} (l : List D) {m : List D} {n : Nat} (hn : n = l.length) (h : m ≠ []) : lslD e (.sl e (l ++ m) []) none (some (.v (.int .i64 (n : Int)))) = some (.sl e l m) := by
 subst hn
 rw [lslG (by simp), List.append_nil, List.take_left, List.drop_left]
theorem szI : szE 34 3 8 := by unfold szE; kernel_rfl
theorem szF : szE 30 45 24 := by unfold szE; kernel_rfl
theorem szY : szE 22 32 64 := by unfold szE; kernel_rfl
theorem szM : szE 35 37 64 := by unfold szE; kernel_rfl
theorem szN : szE 23 39 160 := by unfold szE; kernel_rfl
theorem nil_out (e : Nat) : D.v (.slice none 0 0) = outE e [] := rfl
theorem t3004 {l : List Int} {d : D} (h : KG 3 (l.map dInt) d) (hl : l.length ≤ 5000) : ML prg hand 3004 [d] = some (0, [.sl 3 (l.map dInt) mkInts]) := by
 have e1 := app_all szI h (by rw [List.length_map]; omega) (by rw [List.length_map]; omega)
 rw [eq3004]
 unfold tr3004
 simp only [dentL, dv, List.map_cons, List.map_nil, List.cons_append, List.nil_append, List.getD_cons_zero, List.getD_cons_succ, Option.bind_some, e1]
 have key := iterL_count (f := fun v => dentL theTabs (ML prg hand) tr3004_b1 (d :: outE 3 (l.map dInt) :: v)) (o := .fin 0 [.sl 3 (l.map dInt) mkInts]) 3 (fun i => [outE 3 (l.map dInt ++ (List.range i).map fun j => .v (.int .i64 (-771 - (j : Int)))), .v (.int .i64 (i : Int))]) (fun i hi => ?_) ?_
 · rw [show (List.map (fun j : Nat => D.v (.int .i64 (-771 - (j : Int)))) (List.range 0)) = [] from rfl, List.append_nil] at key
   exact congrArg finO key
 · have e2 : decide ((i : Int) < 3) = true := by simp; omega
   have e3 : binD theTabs .sub 3 (.v (.int .i64 (-771))) (.v (.int .i64 (i : Int))) = some (.v (.int .i64 (-771 - (i : Int)))) := bSubI (by rw [wrap_i64] <;> omega)
   have e4 := app_out szI (l := l.map dInt ++ (List.range i).map fun j => .v (.int .i64 (-771 - (j : Int)))) (m := [.v (.int .i64 (-771 - (i : Int)))]) (x := []) (by simp) (by simp; omega) (by simp; omega)
   unfold tr3004_b1
   simp only [dentL, dv, List.map_cons, List.map_nil, List.cons_append, List.nil_append, List.append_assoc, List.getD_cons_zero, List.getD_cons_succ, if_true, Option.bind_some, Option.map_some, brB, bLtI, e2, e3, wrapD_f, e4, addN (show i < 140737488355328 by omega)]
   rw [outE_cons (e := 3) (l := l.map dInt ++ (List.range (i + 1)).map _) (by simp [List.range_succ])]
   rw [List.range_succ, List.map_append]; rfl
 · have e2 : decide (((3 : Nat) : Int) < 3) = false := by decide
   unfold tr3004_b1
   simp only [dentL, dv, List.map_cons, List.map_nil, List.cons_append, List.nil_append, List.getD_cons_zero, List.getD_cons_succ, if_false, Bool.false_eq_true, Option.bind_some, Option.map_some, brB, bLtI, e2, mlen h, Option.map_none]
   rw [outE_cons (by simp [List.range_succ])]
   rw [lsl_out (l.map dInt) (by simp) (by simp [List.range_succ])]
   rfl
theorem t3007 {l : List Typ} {d : D} (h : KG 32 (l.map Typ.d) d) (hl : l.length ≤ 5000) (hf : ∀ t, t ∈ l → t.fs.length ≤ 5000) : ML prg hand 3007 [d] = some (0, [.sl 32 ((l.map lentTyp).map Typ.d) [mkTyp.d]]) := by
 rw [eq3007]
 unfold tr3007
 simp only [dentL, dv, List.map_cons, List.map_nil, List.cons_append, List.nil_append]
 have key := iterL_count (f := fun v => dentL theTabs (ML prg hand) tr3007_b1 (d :: v)) (o := .fin 0 [.sl 32 ((l.map lentTyp).map Typ.d) [mkTyp.d]]) l.length (fun i => [outE 32 (((l.take i).map lentTyp).map Typ.d), .v (.int .i64 (i : Int))]) (fun i hi => ?_) ?_
 · exact congrArg finO key
 · obtain ⟨t, ht⟩ : ∃ f, l[i]? = some f := ⟨_, List.getElem?_eq_getElem hi⟩
   have hft := hf t (List.mem_of_getElem? ht)
   have k1 := KG_wrap 45 t.fp (t.fs.map Fld.d)
   have e1 := app_all szF k1 (by rw [List.length_map]; omega) (by rw [List.length_map]; omega)
   have e2 := app_out szF (l := t.fs.map Fld.d) (m := [.ag [.v (.string (str [])), .v (.int .i64 (-77))]]) (x := []) (by simp) (by simp; omega) (by simp; omega)
   have e3 := lsl_out (e := 45) (t.fs.map Fld.d) (m := [.ag [.v (.string (str [])), .v (.int .i64 (-77))]]) (n := t.fs.length) (by simp) (by simp)
   have hlen : (((l.take i).map lentTyp).map Typ.d).length ≤ 5000 := by simp; omega
   have e4 := app_out szY (l := ((l.take i).map lentTyp).map Typ.d) (m := [.ag [.v (.int .u8 t.k), .v (.string t.n), .sl 45 (t.fs.map Fld.d) [.ag [.v (.string (str [])), .v (.int .i64 (-77))]], .v (.int .i64 t.el), .v (.int .i64 t.ln)]]) (x := []) (by simp) (by simp only [List.length_cons, List.length_nil]; omega) (by simp only [List.length_cons, List.length_nil]; omega)
   unfold tr3007_b1
   simp only [dentL, dv, ixD, List.map_cons, List.map_nil, List.cons_append, List.nil_append, List.append_assoc, List.getD_cons_zero, List.getD_cons_succ, if_true, Option.bind_some, Option.map_some, brB, cond_true, Int.toNat_natCast, mlen h, ltY hi, mbnd h hi, ldTy h ht, ldTF h ht, e1, wrapD_t, e2, mlen k1, Option.map_none, e3, e4, addN (show i < 140737488355328 by omega)]
   rw [take_succ_get ht, List.map_append, List.map_append, ← outE_app _ _ (by simp)]; rfl
 · have hlen : (((l.take l.length).map lentTyp).map Typ.d).length ≤ 5000 := by simp; omega
   have e4 := app_out szY (l := ((l.take l.length).map lentTyp).map Typ.d) (m := [.ag [.v (.int .u8 177), .v (.string (str [])), .v (.slice none 0 0), .v (.int .i64 0), .v (.int .i64 0)]]) (x := []) (by simp) (by simp only [List.length_cons, List.length_nil]; omega) (by simp only [List.length_cons, List.length_nil]; omega)
   unfold tr3007_b1
   simp only [dentL, dv, ixD, List.map_cons, List.map_nil, List.cons_append, List.nil_append, List.append_assoc, List.getD_cons_zero, List.getD_cons_succ, if_false, Bool.false_eq_true, Option.bind_some, Option.map_some, brB, Int.toNat_natCast, mlen h, ltN, wrapD_t, e4, Option.map_none]
   rw [lsl_out _ (by simp) (by simp), List.take_length]
   rfl
def mkTms : List D := [.ag [.v (.int .u8 177), .v (.int .i64 0), .v (.int .i64 0), .v (.string (str [])), .v (.slice none 0 0)], .ag [.v (.int .u8 178), .v (.int .i64 0), .v (.int .i64 0), .v (.string (str [])), .v (.slice none 0 0)]]
theorem mkTm_d (o : Int) : (mkTm o).d = .ag [.v (.int .u8 o), .v (.int .i64 0), .v (.int .i64 0), .v (.string (str [])), .v (.slice none 0 0)] := by
 unfold mkTm Tm.d; rw [Tm.c]; rfl
theorem lentTm_c (o t n : Int) (s : ByteArray) (p : Option (List D)) (l : List Tm) : (lentTm (.mk o t n s p l)).cells = [.v (.int .u8 o), .v (.int .i64 t), .v (.int .i64 n), .v (.string s), .sl 37 ((l.map lentTm).map Tm.d) mkTms] := by
 rw [lentTm, Tm.c, lentTmL_map, mkTm_d, mkTm_d]; rfl
theorem t3009 : ∀ t : Tm, t.small 5000 → ML prg hand 3009 t.cells = some (0, (lentTm t).cells) := by
 apply Tm.ind
 intro o t n s p l ih hs
 rw [Tm.small] at hs
 have h := KG_wrap 37 p (l.map Tm.d)
 rw [eq3009, lentTm_c]
 unfold tr3009
 rw [Tm.c, dentL_loop]
 have key := iterL_count (f := fun v => dentL theTabs (ML prg hand) tr3009_b1 ([.v (.int .u8 o), .v (.int .i64 t), .v (.int .i64 n), .v (.string s), wrapE 37 p (l.map Tm.d)] ++ v)) (o := .fin 0 [.v (.int .u8 o), .v (.int .i64 t), .v (.int .i64 n), .v (.string s), .sl 37 ((l.map lentTm).map Tm.d) mkTms]) l.length (fun i => [.v (.int .i64 (i : Int)), outE 37 (((l.take i).map lentTm).map Tm.d)]) (fun i hi => ?_) ?_
 · exact congrArg finO key
 · obtain ⟨u, hu⟩ : ∃ f, l[i]? = some f := ⟨_, List.getElem?_eq_getElem hi⟩
   have hmem := List.mem_of_getElem? hu
   have i1 := ih u hmem (smallT_mem hs.2 hmem)
   have hlen : (((l.take i).map lentTm).map Tm.d).length ≤ 5000 := by simp; omega
   rw [take_succ_get hu, List.map_append, List.map_append, ← outE_app _ _ (by simp)]
   cases u with
   | mk o' t' n' s' p' k' =>
   have e4 := app_out szM (l := ((l.take i).map lentTm).map Tm.d) (m := [.ag [.v (.int .u8 o'), .v (.int .i64 t'), .v (.int .i64 n'), .v (.string s'), .sl 37 ((k'.map lentTm).map Tm.d) mkTms]]) (x := []) (by simp) (by simp only [List.length_cons, List.length_nil]; omega) (by simp only [List.length_cons, List.length_nil]; omega)
   rw [Tm.c, lentTm_c] at i1
   unfold tr3009_b1
   simp only [dentL, dv, ixD, List.map_cons, List.map_nil, List.cons_append, List.nil_append, List.append_assoc, List.getD_cons_zero, List.getD_cons_succ, if_true, Option.bind_some, Option.map_some, brB, cond_true, Int.toNat_natCast, mlen h, ltY hi, mbnd h hi, ldTm h hu, i1, wrapD_t, e4, addN (show i < 140737488355328 by omega)]
   have e5 : Tm.d (lentTm (Tm.mk o' t' n' s' p' k')) = .ag [.v (.int .u8 o'), .v (.int .i64 t'), .v (.int .i64 n'), .v (.string s'), .sl 37 ((k'.map lentTm).map Tm.d) mkTms] := by unfold Tm.d; rw [lentTm_c]; rfl
   rw [e5]
 · have hlen : (((l.take l.length).map lentTm).map Tm.d).length ≤ 5000 := by simp; omega
   have e4 := app_out szM (l := ((l.take l.length).map lentTm).map Tm.d) (m := mkTms) (x := []) (by simp [mkTms]) (by simp only [mkTms, List.length_cons, List.length_nil]; omega) (by simp only [mkTms, List.length_cons, List.length_nil]; omega)
   unfold mkTms at e4
   unfold tr3009_b1
   simp only [dentL, dv, ixD, List.map_cons, List.map_nil, List.cons_append, List.nil_append, List.append_assoc, List.getD_cons_zero, List.getD_cons_succ, if_false, Bool.false_eq_true, Option.bind_some, Option.map_some, brB, Int.toNat_natCast, mlen h, ltN, wrapD_t, e4, Option.map_none]
   rw [lsl_out _ (by simp) (by simp), List.take_length]
   rfl
theorem lentFnc_d (f : Fnc) {o t n : Int} {s : ByteArray} {p : Option (List D)} {k : List Tm} (hb : f.b = .mk o t n s p k) : (lentFnc f).d = .ag [.v (.string f.n), .sl 3 (f.ps.map dInt) mkInts, .sl 3 (f.rs.map dInt) mkInts, .sl 3 (f.ss.map dInt) mkInts, .v (.int .u8 o), .v (.int .i64 t), .v (.int .i64 n), .v (.string s), .sl 37 ((k.map lentTm).map Tm.d) mkTms, .v (.int .i64 f.nd)] := by
 unfold Fnc.d Fnc.cells lentFnc
 dsimp only
 rw [hb, lentTm_c]; rfl
def mkFncD : D := .ag [.v (.string (str [])), .v (.slice none 0 0), .v (.slice none 0 0), .v (.slice none 0 0), .v (.int .u8 0), .v (.int .i64 0), .v (.int .i64 0), .v (.string (str [])), .v (.slice none 0 0), .v (.int .i64 (-77))]
theorem mkFnc_d : mkFnc.d = mkFncD := by
 unfold Fnc.d mkFnc Fnc.cells
 dsimp only
 rw [Tm.c]; rfl
theorem t3011 {p : Pro} (hp : p.small) : ML prg hand 3011 p.cells = some (0, (lentPro p).cells) := by
 obtain ⟨f1, f2, f3, f4⟩ := hp
 have h7 := t3007 (hand := hand) (KG_wrap 32 p.tp (p.ts.map Typ.d)) f1 f3
 have h := KG_wrap 39 p.fp (p.fs.map Fnc.d)
 have hr : (lentPro p).cells = [.sl 32 ((p.ts.map lentTyp).map Typ.d) [mkTyp.d], .sl 39 ((p.fs.map lentFnc).map Fnc.d) [mkFncD]] := by
  unfold lentPro Pro.cells; dsimp only; rw [mkFnc_d]; rfl
 rw [eq3011, hr]
 unfold tr3011 Pro.cells
 simp only [dentL, dv, List.map_cons, List.map_nil, List.cons_append, List.nil_append, List.getD_cons_zero, Option.bind_some, h7]
 have key := iterL_count (f := fun v => dentL theTabs (ML prg hand) tr3011_b1 (wrapE 32 p.tp (p.ts.map Typ.d) :: wrapE 39 p.fp (p.fs.map Fnc.d) :: .sl 32 ((p.ts.map lentTyp).map Typ.d) [mkTyp.d] :: v)) (o := .fin 0 [.sl 32 ((p.ts.map lentTyp).map Typ.d) [mkTyp.d], .sl 39 ((p.fs.map lentFnc).map Fnc.d) [mkFncD]]) p.fs.length (fun i => [.v (.int .i64 (i : Int)), outE 39 (((p.fs.take i).map lentFnc).map Fnc.d)]) (fun i hi => ?_) ?_
 · exact congrArg finO key
 · obtain ⟨f, hf⟩ : ∃ f, p.fs[i]? = some f := ⟨_, List.getElem?_eq_getElem hi⟩
   obtain ⟨g1, g2, g3, g4⟩ := f4 f (List.mem_of_getElem? hf)
   have i1 := t3004 (hand := hand) (KG_wrap 3 f.pp (f.ps.map dInt)) g1
   have i2 := t3004 (hand := hand) (KG_wrap 3 f.rp (f.rs.map dInt)) g2
   have i3 := t3004 (hand := hand) (KG_wrap 3 f.sp (f.ss.map dInt)) g3
   have i4 := t3009 (hand := hand) f.b g4
   have hlen : (((p.fs.take i).map lentFnc).map Fnc.d).length ≤ 5000 := by simp; omega
   rw [take_succ_get hf, List.map_append, List.map_append, ← outE_app _ _ (by simp)]
   cases eb : f.b with
   | mk o t n s q k =>
   have e4 := app_out szN (l := ((p.fs.take i).map lentFnc).map Fnc.d) (m := [(lentFnc f).d]) (x := []) (by simp) (by simp only [List.length_cons, List.length_nil]; omega) (by simp only [List.length_cons, List.length_nil]; omega)
   rw [lentFnc_d f eb] at e4
   rw [List.map_cons, List.map_nil, List.map_cons, List.map_nil, lentFnc_d f eb]
   rw [eb, Tm.c, lentTm_c] at i4
   unfold tr3011_b1
   simp only [dentL, dv, ixD, List.map_cons, List.map_nil, List.cons_append, List.nil_append, List.append_assoc, List.getD_cons_zero, List.getD_cons_succ, if_true, Option.bind_some, Option.map_some, brB, cond_true, Int.toNat_natCast, mlen h, ltY hi, mbnd h hi, ldFn h hf eb, i1, i2, i3, i4, wrapD_t, e4, addN (show i < 140737488355328 by omega)]
 · have hlen : (((p.fs.take p.fs.length).map lentFnc).map Fnc.d).length ≤ 5000 := by simp; omega
   have e4 := app_out szN (l := ((p.fs.take p.fs.length).map lentFnc).map Fnc.d) (m := [mkFncD]) (x := []) (by simp) (by simp only [List.length_cons, List.length_nil]; omega) (by simp only [List.length_cons, List.length_nil]; omega)
   unfold mkFncD at e4
   unfold tr3011_b1
   simp only [dentL, dv, ixD, List.map_cons, List.map_nil, List.cons_append, List.nil_append, List.append_assoc, List.getD_cons_zero, List.getD_cons_succ, if_false, Bool.false_eq_true, Option.bind_some, Option.map_some, brB, Int.toNat_natCast, mlen h, ltN, wrapD_t, e4, Option.map_none]
   rw [lsl_out _ (by simp) (by simp), List.take_length]
   rfl
end X
end Go.Proofs.YtmjmpaceopipbaaGreat
namespace Go.Proofs.YtmjmpaceopipbaaGreat
namespace X
open Go B Go.Proofs
variable {hand : FunT}
theorem lsl_up {e : Nat} (l m : List D) {n : Nat} (hn : n = l.length + m.length) : lslD e (.sl e l m) none (some (.v (.int .i64 (n : Int)))) = some (.sl e (l ++ m) []) := by
 subst hn
 have h : l.length + m.length = (l ++ m).length := by simp
 rw [h, lslG (Nat.le_refl _), List.take_length, List.drop_length]
theorem mkInts_get {i : Nat} (hi : i < 3) : mkInts[i]? = some (.v (.int .i64 (-771 - (i : Int)))) := by
 match i, hi with
 | 0, _ => rfl
 | 1, _ => rfl
 | 2, _ => rfl
theorem addK {i k n : Nat} (hn : n = i + k) (h : n < 140737488355328) : binD theTabs .add 3 (.v (.int .i64 (i : Int))) (.v (.int .i64 (k : Int))) = some (.v (.int .i64 (n : Int))) := bAddI (by rw [wrap_i64] <;> omega)
theorem intEq_refl (l : List Int) : eqL intEq l l = true := eqL_refl fun a _ => intEq_self a
theorem t3005 {l : List Int} {d' : D} (h' : KG 3 (l.map dInt) d') (hl : l.length ≤ 5000) : ML prg hand 3005 [.sl 3 (l.map dInt) mkInts, d'] = some (0, [.v (.bool true)]) := by
 have h3 := t3003 (hand := hand) (KG.sl (e := 3) (l.map dInt) mkInts) h' (by omega)
 rw [intEq_refl] at h3
 have a3 : binD theTabs .add 3 (.v (.int .i64 (l.length : Int))) (.v (.int .i64 3)) = some (.v (.int .i64 ((l.length + 3 : Nat) : Int))) := addK (k := 3) rfl (by omega)
 have e1 := lsl_up (e := 3) (l.map dInt) mkInts (n := l.length + 3) (by simp [mkInts])
 rw [eq3005]
 unfold tr3005
 simp only [dentL, dv, List.map_cons, List.map_nil, List.cons_append, List.nil_append, List.append_assoc, List.getD_cons_zero, List.getD_cons_succ, if_false, Bool.false_eq_true, Option.bind_some, Option.map_some, uNot, brB, h3, Bool.not_true, mlen h', a3, Option.map_none, e1]
 have key := iterL_count (f := fun v => dentL theTabs (ML prg hand) tr3005_b1 (.sl 3 (l.map dInt) mkInts :: d' :: .v (.bool true) :: .v (.bool false) :: .v (.int .i64 (l.length : Int)) :: .v (.int .i64 ((l.length + 3 : Nat) : Int)) :: .sl 3 (l.map dInt ++ mkInts) [] :: v)) (o := .fin 0 [.v (.bool true)]) 3 (fun i => [.v (.int .i64 (i : Int))]) (fun i hi => ?_) ?_
 · exact congrArg finO key
 · have e2 : decide ((i : Int) < 3) = true := by simp; omega
   have e3 : binD theTabs .sub 3 (.v (.int .i64 (-771))) (.v (.int .i64 (i : Int))) = some (.v (.int .i64 (-771 - (i : Int)))) := bSubI (by rw [wrap_i64] <;> omega)
   have a4 := addK (i := l.length) (k := i) rfl (by omega)
   have b1 := bndG (KG.sl (e := 3) (l.map dInt ++ mkInts) []) (i := l.length + i) (by simp [mkInts]; omega)
   have g1 : ldD 3 (.sl 3 (l.map dInt ++ mkInts) []) (l.length + i) 0 [true] = some [.v (.int .i64 (-771 - (i : Int)))] :=
    ldG (KG.sl _ _) (c := .v (.int .i64 (-771 - (i : Int)))) (by rw [List.getElem?_append_right (by simp), List.length_map, Nat.add_sub_cancel_left]; exact mkInts_get hi) rfl rfl
   unfold tr3005_b1
   simp only [dentL, dv, ixD, List.map_cons, List.map_nil, List.cons_append, List.nil_append, List.append_assoc, List.getD_cons_zero, List.getD_cons_succ, if_true, if_false, Bool.false_eq_true, Option.bind_some, Option.map_some, bNeI, brB, cond_true, Int.toNat_natCast, bLtI, e2, mlen h', a4, b1, g1, e3, decide_true, Bool.not_true, addN (show i < 140737488355328 by omega)]
 · have e2 : decide (((3 : Nat) : Int) < 3) = false := by decide
   unfold tr3005_b1
   simp only [dentL, dv, ixD, List.map_cons, List.map_nil, List.cons_append, List.nil_append, List.append_assoc, List.getD_cons_zero, List.getD_cons_succ, if_false, Bool.false_eq_true, Option.bind_some, Option.map_some, brB, bLtI, e2]
theorem t3006 {l m : List Typ} {d d' : D} (h : KG 32 (l.map Typ.d) d) (h' : KG 32 (m.map Typ.d) d') (hl : l.length < 140737488355328) (hf : ∀ t, t ∈ l → t.fits) : ML prg hand 3006 [d, d'] = some (0, [.v (.bool (eqL typEq l m))]) := by
 rw [eq3006]
 unfold tr3006
 simp only [dentL, dv, List.map_cons, List.map_nil, List.cons_append, List.nil_append, List.getD_cons_zero, List.getD_cons_succ, Option.bind_some, bNeI, brB, mlen h, mlen h']
 refine cmp_fin typEq l m (fun he i a b hi ha hb => ?_) fun he => ?_
 · have hfa : a.fs.length < 140737488355328 := hf a (List.mem_of_getElem? ha)
   have k := KG_wrap 45 a.fp (a.fs.map Fld.d)
   have k' := KG_wrap 45 b.fp (b.fs.map Fld.d)
   unfold tr3006_b1
   simp only [dentL, dv, ixD, List.map_cons, List.map_nil, List.cons_append, List.nil_append, List.append_assoc, List.getD_cons_zero, List.getD_cons_succ, if_true, Option.bind_some, Option.map_some, bNeU8, bNeI, bNeS, brB, cond_true, Int.toNat_natCast, mlen h, ltY hi, mbnd h hi, mbnd h' (he ▸ hi), ldTy h ha, ldTy h' hb, mlen k, mlen k']
   unfold typEq
   cases decide (a.k = b.k)
   · rfl
   cases strBeq a.n b.n
   · rfl
   cases decide (a.el = b.el)
   · rfl
   cases decide (a.ln = b.ln)
   · rfl
   simp only [Bool.not_true, Bool.false_eq_true, if_false, Bool.true_and]
   refine (cmp_out (oF := .done (.fin 0 [.v (.bool false)])) (oT := .again [.v (.int .i64 ((i + 1 : Nat) : Int))]) fldEq a.fs b.fs (fun he2 j x y hj hx hy => ?_) fun he2 => ?_).trans (by cases eqL fldEq a.fs b.fs <;> rfl)
   · unfold tr3006_b2
     simp only [dentL, dv, ixD, List.map_cons, List.map_nil, List.cons_append, List.nil_append, List.append_assoc, List.getD_cons_zero, List.getD_cons_succ, if_true, Option.bind_some, Option.map_some, brB, cond_true, Int.toNat_natCast, mlen k, ltY hj, mbnd k hj, mbnd k' (he2 ▸ hj), ldF k hx, ldF k' hy, eqsF, addN (Nat.lt_trans hj hfa)]
     show (if (true != fldEq x y) = true then _ else _) = _
     cases fldEq x y <;> rfl
   · unfold tr3006_b2
     simp only [dentL, dv, ixD, List.map_cons, List.map_nil, List.cons_append, List.nil_append, List.append_assoc, List.getD_cons_zero, List.getD_cons_succ, if_false, Bool.false_eq_true, Option.bind_some, Option.map_some, brB, Int.toNat_natCast, mlen k, ltN, addN (Nat.lt_trans hi hl)]
 · unfold tr3006_b1
   simp only [dentL, dv, ixD, List.map_cons, List.map_nil, List.cons_append, List.nil_append, List.append_assoc, List.getD_cons_zero, List.getD_cons_succ, if_false, Bool.false_eq_true, Option.bind_some, Option.map_some, brB, Int.toNat_natCast, mlen h, ltN]
theorem typEq_lent (l : List Typ) : eqL typEq (l.map lentTyp) l = true := by
 have h1 := eqL_congr (p := typEq) (q := typEq) lentTyp id (l := l) (m := l) fun a _ b _ => rfl
 rw [List.map_id] at h1
 rw [h1]; exact eqL_refl fun a _ => typEq_self a
theorem t3008 {l : List Typ} {d' : D} (h' : KG 32 (l.map Typ.d) d') (hl : l.length ≤ 5000) (hf : ∀ t, t ∈ l → t.fs.length ≤ 5000) : ML prg hand 3008 [.sl 32 ((l.map lentTyp).map Typ.d) [mkTyp.d], d'] = some (0, [.v (.bool true)]) := by
 have h := KG.sl (e := 32) ((l.map lentTyp).map Typ.d) [mkTyp.d]
 have h6 := t3006 (hand := hand) h h' (by rw [List.length_map]; omega) (fun t ht => by
  obtain ⟨u, hu, rfl⟩ := List.mem_map.1 ht
  have := hf u hu
  show u.fs.length < _
  omega)
 rw [typEq_lent] at h6
 have a3 := addN (i := l.length) (by omega)
 have e1 := lsl_up (e := 32) ((l.map lentTyp).map Typ.d) [mkTyp.d] (n := l.length + 1) (by simp)
 have b1 := bndG (KG.sl (e := 32) ((l.map lentTyp).map Typ.d ++ [mkTyp.d]) []) (i := l.length) (by simp)
 have g1 : ldD 32 (.sl 32 ((l.map lentTyp).map Typ.d ++ [mkTyp.d]) []) l.length 0 [true] = some [.v (.int .u8 177)] :=
  ldG (KG.sl _ _) (c := mkTyp.d) (by rw [List.getElem?_append_right (by simp)]; simp) rfl rfl
 rw [eq3008]
 unfold tr3008
 simp only [dentL, dv, ixD, List.map_cons, List.map_nil, List.cons_append, List.nil_append, List.append_assoc, List.getD_cons_zero, List.getD_cons_succ, if_false, Bool.false_eq_true, Option.bind_some, Option.map_some, bNeU8, uNot, brB, cond_true, Int.toNat_natCast, h6, Bool.not_true, mlen h', a3, Option.map_none, e1, b1, g1, decide_true]
 have key := iterL_count (f := fun v => dentL theTabs (ML prg hand) tr3008_b1 (.sl 32 ((l.map lentTyp).map Typ.d) [mkTyp.d] :: d' :: .v (.bool true) :: .v (.bool false) :: .v (.int .i64 (l.length : Int)) :: .v (.int .i64 ((l.length + 1 : Nat) : Int)) :: .sl 32 ((l.map lentTyp).map Typ.d ++ [mkTyp.d]) [] :: .v (.int .i64 (l.length : Int)) :: .v (.int .u8 177) :: .v (.bool false) :: v)) (o := .fin 0 [.v (.bool true)]) l.length (fun i => [.v (.int .i64 (i : Int))]) (fun i hi => ?_) ?_
 · exact congrArg finO key
 · obtain ⟨t, ht⟩ : ∃ f, l[i]? = some f := ⟨_, List.getElem?_eq_getElem hi⟩
   have hft := hf t (List.mem_of_getElem? ht)
   have ht2 : (l.map lentTyp)[i]? = some (lentTyp t) := by rw [List.getElem?_map, ht]; rfl
   have k := KG_wrap 45 t.fp (t.fs.map Fld.d)
   have g2 : ldD 32 (.sl 32 ((l.map lentTyp).map Typ.d) [mkTyp.d]) i 2 [false] = some [.sl 45 (t.fs.map Fld.d) [mkFld.d]] := mld h ht2 rfl rfl
   have e3 := lsl_up (e := 45) (t.fs.map Fld.d) [mkFld.d] (n := t.fs.length + 1) (by simp)
   have b3 := bndG (KG.sl (e := 45) (t.fs.map Fld.d ++ [mkFld.d]) []) (i := t.fs.length) (by simp)
   have g3 : ldD 45 (.sl 45 (t.fs.map Fld.d ++ [mkFld.d]) []) t.fs.length 1 [true] = some [.v (.int .i64 (-77))] :=
    ldG (KG.sl _ _) (c := mkFld.d) (by rw [List.getElem?_append_right (by simp)]; simp) rfl rfl
   unfold tr3008_b1
   simp only [dentL, dv, ixD, List.map_cons, List.map_nil, List.cons_append, List.nil_append, List.append_assoc, List.getD_cons_zero, List.getD_cons_succ, if_true, if_false, Bool.false_eq_true, Option.bind_some, Option.map_some, bNeI, brB, cond_true, Int.toNat_natCast, mlen h', ltY hi, mbnd h' hi, mbnd h (show i < (l.map lentTyp).length by rw [List.length_map]; exact hi), ldTF h' ht, mlen k, g2, addN (show t.fs.length < 140737488355328 by omega), Option.map_none, e3, b3, g3, decide_true, Bool.not_true, addN (show i < 140737488355328 by omega)]
 · unfold tr3008_b1
   simp only [dentL, dv, ixD, List.map_cons, List.map_nil, List.cons_append, List.nil_append, List.append_assoc, List.getD_cons_zero, List.getD_cons_succ, if_false, Bool.false_eq_true, Option.bind_some, Option.map_some, brB, Int.toNat_natCast, mlen h', ltN]
theorem t3010 : ∀ t : Tm, t.small 5000 → ML prg hand 3010 ((lentTm t).cells ++ t.cells) = some (0, [.v (.bool true)]) := by
 apply Tm.ind
 intro o t n s p l ih hs
 rw [Tm.small] at hs
 have h := KG.sl (e := 37) ((l.map lentTm).map Tm.d) mkTms
 have h' := KG_wrap 37 p (l.map Tm.d)
 have e0 : ((l.map lentTm).length : Int) = (l.length : Int) := by rw [List.length_map]
 rw [eq3010, lentTm_c, Tm.c]
 unfold tr3010
 simp only [dentL, dv, List.map_cons, List.map_nil, List.cons_append, List.nil_append, List.getD_cons_zero, List.getD_cons_succ, if_false, Bool.false_eq_true, Option.bind_some, bNeU8, bNeI, bNeL, bNeS, brB, mlen h, mlen h', e0, strBeq_self, decide_true, Bool.not_true]
 have key := iterL_count (f := fun v => dentL theTabs (ML prg hand) tr3010_b1 (.v (.int .u8 o) :: .v (.int .i64 t) :: .v (.int .i64 n) :: .v (.string s) :: .sl 37 ((l.map lentTm).map Tm.d) mkTms :: .v (.int .u8 o) :: .v (.int .i64 t) :: .v (.int .i64 n) :: .v (.string s) :: wrapE 37 p (l.map Tm.d) :: .v (.bool false) :: .v (.bool false) :: .v (.bool false) :: .v (.bool false) :: .v (.int .i64 (l.length : Int)) :: .v (.int .i64 (l.length : Int)) :: .v (.bool false) :: v)) (o := .fin 0 [.v (.bool true)]) l.length (fun i => [.v (.int .i64 (i : Int))]) (fun i hi => ?_) ?_
 · exact congrArg finO key
 · obtain ⟨u, hu⟩ : ∃ f, l[i]? = some f := ⟨_, List.getElem?_eq_getElem hi⟩
   have hmem := List.mem_of_getElem? hu
   have i1 := ih u hmem (smallT_mem hs.2 hmem)
   cases u with
   | mk o' t' n' s' p' k' =>
   have g2 : ldD 37 (.sl 37 ((l.map lentTm).map Tm.d) mkTms) i 0 [true, true, true, true, false] = some [.v (.int .u8 o'), .v (.int .i64 t'), .v (.int .i64 n'), .v (.string s'), .sl 37 ((k'.map lentTm).map Tm.d) mkTms] :=
    mld h (show (l.map lentTm)[i]? = some (lentTm (.mk o' t' n' s' p' k')) by rw [List.getElem?_map, hu]; rfl) (by unfold Tm.d D.cells; dsimp only; rw [lentTm_c]; rfl) rfl
   rw [lentTm_c, Tm.c] at i1
   simp only [List.cons_append, List.nil_append] at i1
   unfold tr3010_b1
   simp only [dentL, dv, ixD, List.map_cons, List.map_nil, List.cons_append, List.nil_append, List.append_assoc, List.getD_cons_zero, List.getD_cons_succ, if_true, if_false, Bool.false_eq_true, Option.bind_some, Option.map_some, uNot, brB, cond_true, Int.toNat_natCast, mlen h', ltY hi, mbnd h' hi, mbnd h (show i < (l.map lentTm).length by rw [List.length_map]; exact hi), ldTm h' hu, g2, i1, Bool.not_true, addN (show i < 140737488355328 by omega)]
 · have a2 : binD theTabs .add 3 (.v (.int .i64 (l.length : Int))) (.v (.int .i64 2)) = some (.v (.int .i64 ((l.length + 2 : Nat) : Int))) := addK (k := 2) rfl (by omega)
   have e1 := lsl_up (e := 37) ((l.map lentTm).map Tm.d) mkTms (n := l.length + 2) (by simp [mkTms])
   have hk := KG.sl (e := 37) ((l.map lentTm).map Tm.d ++ mkTms) []
   have b1 := bndG hk (i := l.length) (by simp [mkTms])
   have b2 := bndG hk (i := l.length + 1) (by simp [mkTms])
   have g1 : ldD 37 (.sl 37 ((l.map lentTm).map Tm.d ++ mkTms) []) l.length 0 [true] = some [.v (.int .u8 177)] :=
    ldG hk (c := .ag [.v (.int .u8 177), .v (.int .i64 0), .v (.int .i64 0), .v (.string (str [])), .v (.slice none 0 0)]) (by rw [List.getElem?_append_right (by simp)]; simp [mkTms]) rfl rfl
   have g2 : ldD 37 (.sl 37 ((l.map lentTm).map Tm.d ++ mkTms) []) (l.length + 1) 0 [true] = some [.v (.int .u8 178)] :=
    ldG hk (c := .ag [.v (.int .u8 178), .v (.int .i64 0), .v (.int .i64 0), .v (.string (str [])), .v (.slice none 0 0)]) (by rw [List.getElem?_append_right (by simp)]; simp [mkTms]) rfl rfl
   unfold tr3010_b1
   simp only [dentL, dv, ixD, List.map_cons, List.map_nil, List.cons_append, List.nil_append, List.append_assoc, List.getD_cons_zero, List.getD_cons_succ, if_true, if_false, Bool.false_eq_true, Option.bind_some, Option.map_some, bEqU8, brB, cond_true, Int.toNat_natCast, mlen h', ltN, a2, Option.map_none, e1, b1, g1, decide_true, addN (show l.length < 140737488355328 by omega), b2, g2]
theorem t3012 {p : Pro} (hp : p.small) : ML prg hand 3012 ((lentPro p).cells ++ p.cells) = some (0, [.v (.bool true)]) := by
 obtain ⟨f1, f2, f3, f4⟩ := hp
 have h8 := t3008 (hand := hand) (KG_wrap 32 p.tp (p.ts.map Typ.d)) f1 f3
 have h := KG.sl (e := 39) ((p.fs.map lentFnc).map Fnc.d) [mkFncD]
 have h' := KG_wrap 39 p.fp (p.fs.map Fnc.d)
 have e0 : ((p.fs.map lentFnc).length : Int) = (p.fs.length : Int) := by rw [List.length_map]
 have hr : (lentPro p).cells = [.sl 32 ((p.ts.map lentTyp).map Typ.d) [mkTyp.d], .sl 39 ((p.fs.map lentFnc).map Fnc.d) [mkFncD]] := by
  unfold lentPro Pro.cells; dsimp only; rw [mkFnc_d]; rfl
 have a3 := addN (i := p.fs.length) (by omega)
 have e1 := lsl_up (e := 39) ((p.fs.map lentFnc).map Fnc.d) [mkFncD] (n := p.fs.length + 1) (by simp)
 have b1 := bndG (KG.sl (e := 39) ((p.fs.map lentFnc).map Fnc.d ++ [mkFncD]) []) (i := p.fs.length) (by simp)
 have g1 : ldD 39 (.sl 39 ((p.fs.map lentFnc).map Fnc.d ++ [mkFncD]) []) p.fs.length 9 [true] = some [.v (.int .i64 (-77))] :=
  ldG (KG.sl _ _) (c := mkFncD) (by rw [List.getElem?_append_right (by simp)]; simp) rfl rfl
 rw [eq3012, hr]
 unfold tr3012 Pro.cells
 simp only [dentL, dv, ixD, List.map_cons, List.map_nil, List.cons_append, List.nil_append, List.append_assoc, List.getD_cons_zero, List.getD_cons_succ, if_false, Bool.false_eq_true, Option.bind_some, Option.map_some, bNeI, uNot, brB, cond_true, Int.toNat_natCast, h8, Bool.not_true, mlen h, mlen h', e0, decide_true, a3, Option.map_none, e1, b1, g1]
 have key := iterL_count (f := fun v => dentL theTabs (ML prg hand) tr3012_b1 (.sl 32 ((p.ts.map lentTyp).map Typ.d) [mkTyp.d] :: .sl 39 ((p.fs.map lentFnc).map Fnc.d) [mkFncD] :: wrapE 32 p.tp (p.ts.map Typ.d) :: wrapE 39 p.fp (p.fs.map Fnc.d) :: .v (.bool true) :: .v (.bool false) :: .v (.int .i64 (p.fs.length : Int)) :: .v (.int .i64 (p.fs.length : Int)) :: .v (.bool false) :: .v (.int .i64 (p.fs.length : Int)) :: .v (.int .i64 ((p.fs.length + 1 : Nat) : Int)) :: .sl 39 ((p.fs.map lentFnc).map Fnc.d ++ [mkFncD]) [] :: .v (.int .i64 (p.fs.length : Int)) :: .v (.int .i64 (-77)) :: .v (.bool false) :: v)) (o := .fin 0 [.v (.bool true)]) p.fs.length (fun i => [.v (.int .i64 (i : Int))]) (fun i hi => ?_) ?_
 · exact congrArg finO key
 · obtain ⟨f, hf⟩ : ∃ f, p.fs[i]? = some f := ⟨_, List.getElem?_eq_getElem hi⟩
   obtain ⟨w1, w2, w3, w4⟩ := f4 f (List.mem_of_getElem? hf)
   have i1 := t3005 (hand := hand) (KG_wrap 3 f.pp (f.ps.map dInt)) w1
   have i2 := t3005 (hand := hand) (KG_wrap 3 f.rp (f.rs.map dInt)) w2
   have i3 := t3005 (hand := hand) (KG_wrap 3 f.sp (f.ss.map dInt)) w3
   have i4 := t3010 (hand := hand) f.b w4
   cases eb : f.b with
   | mk o t n s q k =>
   rw [eb, lentTm_c, Tm.c] at i4
   simp only [List.cons_append, List.nil_append] at i4
   have g2 : ldD 39 (.sl 39 ((p.fs.map lentFnc).map Fnc.d) [mkFncD]) i 0 [true, false, false, false, true, true, true, true, false, true] = some [.v (.string f.n), .sl 3 (f.ps.map dInt) mkInts, .sl 3 (f.rs.map dInt) mkInts, .sl 3 (f.ss.map dInt) mkInts, .v (.int .u8 o), .v (.int .i64 t), .v (.int .i64 n), .v (.string s), .sl 37 ((k.map lentTm).map Tm.d) mkTms, .v (.int .i64 f.nd)] :=
    mld h (show (p.fs.map lentFnc)[i]? = some (lentFnc f) by rw [List.getElem?_map, hf]; rfl) (by rw [lentFnc_d f eb]; rfl) rfl
   unfold tr3012_b1
   simp only [dentL, dv, ixD, List.map_cons, List.map_nil, List.cons_append, List.nil_append, List.append_assoc, List.getD_cons_zero, List.getD_cons_succ, if_true, if_false, Bool.false_eq_true, Option.bind_some, Option.map_some, bNeI, bNeS, uNot, brB, cond_true, Int.toNat_natCast, mlen h', ltY hi, mbnd h' hi, mbnd h (show i < (p.fs.map lentFnc).length by rw [List.length_map]; exact hi), g2, ldFn h' hf eb, strBeq_self, decide_true, Bool.not_true, i1, i2, i3, i4, addN (show i < 140737488355328 by omega)]
 · unfold tr3012_b1
   simp only [dentL, dv, ixD, List.map_cons, List.map_nil, List.cons_append, List.nil_append, List.append_assoc, List.getD_cons_zero, List.getD_cons_succ, if_false, Bool.false_eq_true, Option.bind_some, Option.map_some, brB, Int.toNat_natCast, mlen h', ltN]
end X
end Go.Proofs.YtmjmpaceopipbaaGreat
namespace Go.Proofs.YtmjmpaceopipbaaGreat
namespace X
open Go B Go.Proofs
variable {hand : FunT}
theorem bEqB (a b : Bool) : binD theTabs .eql 4 (.v (.bool a)) (.v (.bool b)) = some (.v (.bool (a == b))) := by cases a <;> cases b <;> kernel_rfl
theorem lentTm_fits : ∀ t : Tm, t.fits → (lentTm t).fits := by
 apply Tm.ind
 intro o t n s p l ih hf
 rw [Tm.fits] at hf
 rw [lentTm, Tm.fits, lentTmL_map, List.length_map]
 refine ⟨hf.1, fitsT_all fun u hu => ?_⟩
 obtain ⟨v, hv, rfl⟩ := List.mem_map.1 hu
 exact ih v hv (fitsT_mem hf.2 hv)
theorem lentPro_fits {p : Pro} (h : p.fits) : (lentPro p).fits := by
 obtain ⟨h1, h2, h3, h4⟩ := h
 refine ⟨by show (p.ts.map lentTyp).length < _; rw [List.length_map]; exact h1, by show (p.fs.map lentFnc).length < _; rw [List.length_map]; exact h2, fun t ht => ?_, fun f hf => ?_⟩
 · obtain ⟨u, hu, rfl⟩ := List.mem_map.1 (show t ∈ p.ts.map lentTyp from ht)
   exact h3 u hu
 · obtain ⟨u, hu, rfl⟩ := List.mem_map.1 (show f ∈ p.fs.map lentFnc from hf)
   obtain ⟨q1, q2, q3, q4⟩ := h4 u hu
   exact ⟨q1, q2, q3, lentTm_fits _ q4⟩
theorem Pro.c (p : Pro) : p.cells = [wrapE 32 p.tp (p.ts.map Typ.d), wrapE 39 p.fp (p.fs.map Fnc.d)] := rfl
theorem same_true (x y : Pro) (hx : x.fits) (hy : y.fits) (hw : hand 3030 [] = some (0, [.v (.bool true)])) : ML prg hand 3026 (x.cells ++ y.cells) = some (0, [.v (.bool true)]) := by
 obtain ⟨b1, s1, s2⟩ := t3002 (hand := hand) hx
 obtain ⟨b2, s3, s4⟩ := t3002 (hand := hand) hy
 rw [eq3026]
 unfold tr3026
 rw [Pro.c] at s1 s3
 simp only [List.cons_append, List.nil_append] at s1 s3
 cases b1 with
 | false => simp only [Pro.c, dentL, dv, List.map_cons, List.map_nil, List.cons_append, List.nil_append, List.append_assoc, List.getD_cons_zero, List.getD_cons_succ, if_true, Option.bind_some, uNot, brB, s1, Bool.not_false]; rfl
 | true =>
 cases b2 with
 | false => simp only [Pro.c, dentL, dv, List.map_cons, List.map_nil, List.cons_append, List.nil_append, List.append_assoc, List.getD_cons_zero, List.getD_cons_succ, if_true, if_false, Bool.false_eq_true, Option.bind_some, uNot, brB, s1, s3, Bool.not_true, Bool.not_false]; rfl
 | true =>
 have u := s2 rfl
 have v := s4 rfl
 have l1 := t3011 (hand := hand) u
 have l2 := t3011 (hand := hand) v
 have c1 := t3021 (hand := hand) (y := lentPro y) (lentPro_fits hx)
 have c2 := t3021 (hand := hand) (y := lentPro x) (lentPro_fits hy)
 have c3 := t3021 (hand := hand) (y := lentPro x) (lentPro_fits hx)
 have r1 := t3025 (hand := hand) (y := y) hx
 have k1 := t3012 (hand := hand) u
 have w1 : ML prg hand 3030 [] = some (0, [.v (.bool true)]) := by rw [ML_hand rfl]; exact hw
 rw [lentPro_eq2] at c1 c2 c3
 rw [proEq_comm] at c2
 rw [proEq_self] at c3
 simp only [Pro.c, List.cons_append, List.nil_append] at l1 l2 c1 c2 c3 r1 k1
 simp only [Pro.c, dentL, dv, List.map_cons, List.map_nil, List.cons_append, List.nil_append, List.append_assoc, List.getD_cons_zero, List.getD_cons_succ, if_true, if_false, Bool.false_eq_true, Option.bind_some, uNot, brB, s1, s3, Bool.not_true, l1, l2, c1, r1, bEqB, beq_self_eq_true, c2, c3, k1, w1]
 rfl
end X
end Go.Proofs.YtmjmpaceopipbaaGreat
