/-
  The program's tables; the functions' signatures; the set's own trial, computed.
-/
import Derived.Test.YtmjmpaceopipbaaGreatM3
import Derived.Test.YtmjmpaceopipbaaGreatChecked
import Derived.KernelRfl
import Derived.Test.YtmjmpaceopipbaaGreatM5
import Derived.Test.YtmjmpaceopipbaaGreatMX2
namespace Go.Proofs.YtmjmpaceopipbaaGreat
namespace B
open Go Go.Proofs
theorem inf2 : Tables.info? Tryz.prog.toTables 2 = some Tryz.t2 := info_of Tryz.types_size (by decide) Tryz.type2
theorem cells2 : Program.cellsOf Tryz.prog 2 = 1 := cells_of inf2 rfl
theorem inf3 : Tables.info? Tryz.prog.toTables 3 = some Tryz.t3 := info_of Tryz.types_size (by decide) Tryz.type3
theorem cells3 : Program.cellsOf Tryz.prog 3 = 1 := cells_of inf3 rfl
theorem inf5 : Tables.info? Tryz.prog.toTables 5 = some Tryz.t5 := info_of Tryz.types_size (by decide) Tryz.type5
theorem cells5 : Program.cellsOf Tryz.prog 5 = 1 := cells_of inf5 rfl
theorem inf9 : Tables.info? Tryz.prog.toTables 9 = some Tryz.t9 := info_of Tryz.types_size (by decide) Tryz.type9
theorem cells9 : Program.cellsOf Tryz.prog 9 = 1 := cells_of inf9 rfl
theorem inf22 : Tables.info? Tryz.prog.toTables 22 = some Tryz.t22 := info_of Tryz.types_size (by decide) Tryz.type22
theorem cells22 : Program.cellsOf Tryz.prog 22 = 1 := cells_of inf22 rfl
theorem inf23 : Tables.info? Tryz.prog.toTables 23 = some Tryz.t23 := info_of Tryz.types_size (by decide) Tryz.type23
theorem cells23 : Program.cellsOf Tryz.prog 23 = 1 := cells_of inf23 rfl
theorem inf25 : Tables.info? Tryz.prog.toTables 25 = some Tryz.t25 := info_of Tryz.types_size (by decide) Tryz.type25
theorem cells25 : Program.cellsOf Tryz.prog 25 = 2 := cells_of inf25 rfl
theorem inf30 : Tables.info? Tryz.prog.toTables 30 = some Tryz.t30 := info_of Tryz.types_size (by decide) Tryz.type30
theorem cells30 : Program.cellsOf Tryz.prog 30 = 1 := cells_of inf30 rfl
theorem inf32 : Tables.info? Tryz.prog.toTables 32 = some Tryz.t32 := info_of Tryz.types_size (by decide) Tryz.type32
theorem cells32 : Program.cellsOf Tryz.prog 32 = 5 := cells_of inf32 rfl
theorem inf34 : Tables.info? Tryz.prog.toTables 34 = some Tryz.t34 := info_of Tryz.types_size (by decide) Tryz.type34
theorem cells34 : Program.cellsOf Tryz.prog 34 = 1 := cells_of inf34 rfl
theorem inf35 : Tables.info? Tryz.prog.toTables 35 = some Tryz.t35 := info_of Tryz.types_size (by decide) Tryz.type35
theorem cells35 : Program.cellsOf Tryz.prog 35 = 1 := cells_of inf35 rfl
theorem inf37 : Tables.info? Tryz.prog.toTables 37 = some Tryz.t37 := info_of Tryz.types_size (by decide) Tryz.type37
theorem cells37 : Program.cellsOf Tryz.prog 37 = 5 := cells_of inf37 rfl
theorem inf39 : Tables.info? Tryz.prog.toTables 39 = some Tryz.t39 := info_of Tryz.types_size (by decide) Tryz.type39
theorem cells39 : Program.cellsOf Tryz.prog 39 = 10 := cells_of inf39 rfl
theorem inf45 : Tables.info? Tryz.prog.toTables 45 = some Tryz.t45 := info_of Tryz.types_size (by decide) Tryz.type45
theorem cells45 : Program.cellsOf Tryz.prog 45 = 2 := cells_of inf45 rfl
end B
end Go.Proofs.YtmjmpaceopipbaaGreat
namespace Go.Proofs.YtmjmpaceopipbaaGreat
namespace B
open Go Go.Proofs
def lkF (P : Program) (f : Nat) : Option Func := match P.funcs[f]? with
 | some fn => bif Func.enters fn then some fn else none
 | none => none
theorem lkF_some {P : Program} {f : Nat} {fn : Func} (h : lkF P f = some fn) : P.funcs[f]? = some fn ∧ Func.enters fn = true := by
 unfold lkF at h
 split at h
 case h_2 => cases h
 rename_i g hg
 cases he : Func.enters g with
 | false => rw [he] at h; cases h
 | true =>
  rw [he, cond_true, Option.some.injEq] at h
  subst h
  exact ⟨hg, he⟩
def tabsOf (P : Program) : Tabs := ⟨P.underlying, P.info?, lkF P⟩
theorem tabsOf_ok (P : Program) : TabOK P (tabsOf P) := ⟨fun _ _ h => h, fun _ _ h => h, fun _ _ h => (lkF_some h).1⟩
theorem tabsOf_en (P : Program) : ∀ f fn, (tabsOf P).func f = some fn → enterB P f = true := by
 intro f fn h
 obtain ⟨h1, h2⟩ := lkF_some h
 unfold enterB
 rw [h1]
 exact h2
theorem tabsOf_end {P : Program} {n f : Nat} (h : P.funcs.size = n) (hf : n ≤ f) : (tabsOf P).func f = none := by
 show lkF P f = none
 unfold lkF
 rw [Array.getElem?_eq_none (by omega)]
noncomputable def theTabs : Tabs := tabsOf Tryz.prog
theorem theTabs_ok : TabOK Tryz.prog theTabs := tabsOf_ok _
theorem theTabs_en : ∀ f fn, theTabs.func f = some fn → enterB Tryz.prog f = true := tabsOf_en _
end B
end Go.Proofs.YtmjmpaceopipbaaGreat
namespace Go.Proofs.YtmjmpaceopipbaaGreat
namespace G
open Go B Go.Proofs
def lookN {α : Type} (k : Nat) : List (Nat × α) → Option α
 | [] => none
 | (i, x) :: l => bif Nat.beq i k then some x else lookN k l
def planTab : List (Nat × List (Nat × PI)) := [
 (3, [(3, .reads [0, 2, 4, 5, 1, 3, 6, 7] [0, 1, 0, 7, 0, 0, 63, 127]), (4, .reads [0, 1, 3, 4, 2, 5, 6, 7, 8, 9, 11, 12, 10, 13, 14, 15, 16, 17, 18, 19, 20, 21, 22, 23, 24, 25, 26, 27, 28, 29] [0, 0, 3, 0, 0, 31, 63, 127, 255, 255, 1023, 255, 255, 8191, 16383, 32767, 65535, 131071, 131071, 524287, 1048575, 2097151, 4194303, 4194303, 16777215, 33554431, 67108863, 134217727, 268435455, 536870911])]),
 (4, [(9, .reads [0, 1, 2, 3, 4, 5, 6, 7, 10, 11, 12, 13, 14, 15, 16, 18, 19, 20, 21, 22, 23, 24, 26, 27, 28, 29, 30, 31, 32, 8, 9, 17, 25, 33, 34] [0, 0, 2, 0, 14, 30, 62, 0, 254, 511, 0, 1024, 0, 7168, 15360, 31744, 64512, 131071, 0, 262144, 0, 1835008, 3932160, 8126464, 16515072, 33554431, 0, 67108864, 0, 469762048, 1006632960, 2080374784, 4227858432, 8589934591, 17179869183])]),
 (5, [(6, .reads [0, 1, 2, 3, 4, 5, 7, 8, 10, 11, 13, 14, 16, 17, 6, 9, 12, 15, 18, 19, 20, 21, 22] [0, 1, 0, 4, 0, 16, 48, 0, 128, 496, 0, 1024, 4080, 0, 8192, 32752, 0, 65536, 262140, 524284, 1048575, 2097151, 4194303])]),
 (7, [(6, .quiet [0, 1, 2, 3, 4, 5, 6, 7, 8, 9, 10, 11]), (11, .reads [0, 1, 2, 3, 4, 5, 6, 7, 8, 9, 10, 11, 12, 13] [0, 1, 0, 7, 15, 0, 32, 0, 224, 480, 0, 0, 3103, 8191])]),
 (8, [(1, .quiet [0, 1, 2, 3, 4, 5, 6, 7, 8, 9, 10, 11, 12, 13, 14, 15, 16, 17, 18, 19, 20, 21, 22, 23, 24, 25, 26, 27, 28, 29, 30]), (6, .reads [0, 1, 2, 3, 4, 5, 6, 7, 8, 9, 10, 11, 12, 13] [0, 1, 0, 7, 15, 0, 32, 0, 224, 480, 0, 0, 3103, 8191])]),
 (11, [(7, .quiet [0, 1, 2, 3, 4, 5, 6, 7, 8, 9]), (9, .quiet [0, 1, 2, 3, 4, 5, 6, 7, 8, 9, 10])]),
 (15, [(6, .quiet [0, 1, 2, 3, 4, 5, 6, 7, 8])]),
 (17, [(6, .quiet [0, 1, 2, 3, 4, 5, 6, 7, 8])]),
 (21, [(6, .quiet [0, 1, 2, 3, 4, 5, 6, 7, 8, 9, 10])]),
 (22, [(6, .quiet [0, 1, 2, 3, 4, 5, 6, 7, 8])]),
 (23, [(6, .quiet [0, 1, 2, 3, 4, 5, 6, 7, 8, 9, 10, 11])]),
 (26, [(6, .quiet [0, 1, 2, 3, 4, 5, 6, 7, 8, 9, 10, 11])]),
 (28, [(3, .reads [0, 1, 2, 3, 4, 5] [0, 0, 0, 1, 11, 31]), (19, .reads [0, 2, 3, 4, 5, 1, 6, 7, 8, 9] [0, 1, 0, 4, 12, 28, 63, 127, 255, 511])]),
 (29, [(18, .reads [0, 1, 2, 3, 4, 5, 6, 7, 8] [0, 0, 0, 4, 12, 28, 63, 127, 255])]),
 (31, [(6, .reads [0, 1, 2, 3, 4, 5, 6, 7, 8, 9, 10, 11] [0, 0, 3, 7, 0, 0, 48, 112, 0, 0, 783, 2047]), (12, .quiet [0, 1, 2, 3, 4, 5, 6, 7, 8, 9, 10])]),
 (32, [(6, .quiet [0, 1, 2, 3, 4, 5, 6, 7, 8])]),
 (33, [(3, .reads [0, 1, 2, 3, 4, 5] [0, 0, 0, 1, 11, 31])]),
 (34, [(2, .quiet [0, 1, 2, 3, 4, 5, 6, 7, 8, 9, 10, 11]), (4, .reads [0, 1, 2, 3, 4, 5, 6, 7] [0, 1, 0, 4, 12, 31, 63, 127]), (5, .reads [0, 1, 2, 3, 4, 5, 6, 7] [0, 1, 0, 4, 12, 31, 63, 127])]),
 (35, [(14, .quiet [0, 1, 2, 3, 4, 5, 6]), (17, .quiet [0, 1, 2, 3, 4, 5, 6])]),
 (36, [(5, .reads [0, 1, 2, 3, 4, 5, 6, 7] [0, 0, 2, 0, 8, 1, 39, 127])]),
 (38, [(1, .quiet [0, 1, 2, 3, 4, 5, 6, 7]), (2, .reads [0, 1, 2, 3, 4, 7, 5, 6, 8] [0, 1, 3, 7, 0, 31, 63, 0, 255]), (3, .reads [0, 1, 2, 5, 3, 4, 6] [0, 1, 0, 4, 15, 0, 63]), (8, .reads [0, 1, 2, 3, 4, 5, 6, 7, 8, 9, 10, 11, 12, 13, 14] [0, 1, 0, 4, 12, 28, 0, 64, 192, 448, 1020, 2044, 4095, 8191, 16383]), (14, .reads [0, 1, 2, 3, 4, 5, 6, 7, 8, 9, 10, 11] [0, 1, 0, 4, 12, 28, 0, 124, 252, 511, 1023, 2047]), (16, .quiet [0, 1, 2, 3, 4, 5, 6, 7, 8, 9, 10])]),
 (39, [(5, .quiet [0, 1, 2, 3, 4, 5, 6, 7, 8, 9, 10, 11, 12, 13]), (7, .reads [0, 1, 2, 3, 4, 5, 6, 7, 8, 9, 10, 11, 12, 13] [0, 1, 3, 7, 0, 0, 0, 64, 192, 448, 992, 2047, 4095, 8191]), (8, .reads [0, 1, 2, 3, 4, 5, 6, 7, 8, 9, 10, 11, 12] [0, 1, 3, 7, 0, 0, 32, 96, 224, 480, 1023, 2047, 4095])]),
 (41, [(6, .quiet [0, 1, 2, 3, 4, 5, 6])]),
 (43, [(3, .quiet [0, 1, 2, 3, 4, 5, 6, 7, 8, 9, 10, 11, 12, 13, 14, 15, 16, 17, 18])]),
 (46, [(5, .reads [0, 1, 2, 3, 4, 5, 6, 7] [0, 0, 2, 0, 8, 1, 39, 127])]),
 (50, [(10, .reads [0, 1, 2, 3, 4, 5, 6, 7, 8, 9, 10] [0, 1, 0, 4, 0, 0, 0, 64, 240, 511, 1023])]),
 (53, [(7, .quiet [0, 1, 2, 3, 4, 5, 6, 7]), (9, .reads [0, 1, 2, 3, 4, 5, 6, 7, 8, 9, 10, 11, 12] [0, 1, 3, 7, 15, 0, 32, 0, 0, 256, 768, 1920, 4095])]),
 (54, [(17, .quiet [0, 1, 2, 3, 4, 5, 6])]),
 (63, [(1, .quiet [0, 1, 2, 3, 4, 5, 6, 7, 8, 9, 10, 11, 12])]),
 (64, [(7, .reads [0, 1, 2, 3, 4, 5, 6, 7, 8] [0, 1, 0, 0, 12, 28, 63, 127, 255])]),
 (74, [(12, .reads [0, 1, 2, 3, 4, 5, 6, 7, 8, 9, 10, 11, 13, 14, 15, 12, 16, 17, 18] [0, 1, 3, 7, 15, 31, 63, 127, 255, 511, 31, 1055, 4095, 31, 8223, 24607, 65535, 131071, 262143]), (18, .reads [0, 1, 2, 3, 4, 5, 6, 7, 8, 10, 11, 12, 9, 13, 14] [0, 1, 3, 7, 15, 0, 32, 96, 224, 511, 0, 1024, 3072, 8191, 16383]), (24, .reads [0, 1, 2, 4, 5, 6, 7, 8, 3, 9, 10] [0, 0, 2, 7, 0, 16, 48, 112, 240, 511, 1023])]),
 (75, [(2, .quiet [0, 1, 2, 3, 4, 5, 6, 7, 8, 9])]),
 (76, [(1, .quiet [0, 1, 2, 3, 4, 5, 6, 7, 8, 9]), (2, .quiet [0, 1, 2, 3, 4, 5, 6, 7, 8, 9, 10, 11])]),
 (78, [(1, .quiet [0, 1, 2, 3, 4, 5, 6, 7, 8, 9, 10, 11]), (2, .quiet [0, 1, 2, 3, 4, 5, 6, 7, 8, 9, 10, 11, 12])]),
 (84, [(2, .reads [0, 1, 2, 3, 4, 5, 6, 7, 8] [0, 1, 0, 4, 0, 16, 48, 127, 255])]),
 (88, [(7, .reads [0, 1, 2, 3, 4, 5, 6, 7, 8, 9, 10, 11] [0, 0, 0, 4, 12, 28, 60, 124, 254, 510, 1023, 2047])]),
 (91, [(6, .reads [0, 1, 2, 3, 4, 5, 6, 7, 8, 9, 10, 11, 12, 13, 14, 15, 16] [0, 1, 3, 7, 15, 31, 63, 127, 255, 511, 255, 255, 3327, 7423, 16383, 32767, 65535])]),
 (94, [(11, .reads [0, 1, 2, 3, 4, 6, 8, 5, 7, 9, 10, 11, 12, 13] [0, 1, 3, 7, 7, 23, 7, 119, 7, 503, 1015, 2047, 4095, 8191])]),
 (96, [(1, .quiet [0, 1, 2, 3, 4, 5, 6, 7, 8, 9, 10])]),
 (97, [(0, .reads [0, 1, 2, 3, 4, 5, 6, 7, 8, 11, 12, 9, 10, 13, 14, 15] [0, 1, 3, 7, 0, 16, 48, 0, 128, 496, 1008, 0, 2048, 8191, 16383, 32767])]),
 (98, [(1, .reads [0, 1, 2, 3, 4, 5, 6, 7, 8, 9, 10, 11, 12, 13, 14, 15, 16, 17, 18] [0, 0, 2, 6, 14, 0, 32, 0, 0, 256, 768, 1792, 3968, 8160, 16352, 32766, 65535, 131071, 262143])]),
 (99, [(1, .reads [0, 1, 2, 3, 4, 5, 8, 6, 7, 9] [0, 0, 0, 4, 12, 28, 62, 127, 0, 511]), (5, .quiet [0, 1, 2, 3, 4, 5, 6]), (2, .reads [0, 1, 2, 3, 4, 5, 6, 7, 8, 9, 10, 11, 12, 13, 14, 15] [0, 1, 3, 7, 15, 0, 0, 0, 128, 0, 512, 0, 2048, 8064, 16320, 32767])]),
 (101, [(3, .quiet [0, 1, 2, 3, 4, 5, 6]), (8, .quiet [0, 1, 2, 3, 4, 5, 6, 7])]),
 (103, [(3, .quiet [0, 1, 2, 3, 4, 5, 6, 7, 8, 9, 10, 11, 12, 13, 14])]),
 (106, [(24, .reads [0, 2, 3, 4, 5, 6, 7, 8, 9, 10, 11, 12, 14, 1, 13, 15] [0, 1, 0, 4, 12, 28, 0, 64, 192, 448, 1020, 2044, 4092, 8191, 0, 32767]), (28, .reads [0, 1, 2, 3, 4, 5, 7, 6, 8] [0, 0, 0, 4, 12, 28, 63, 0, 255]), (29, .reads [0, 1, 2, 3, 4, 5, 6, 7, 8, 9, 10, 11] [0, 0, 0, 0, 8, 24, 56, 124, 252, 510, 1023, 2047])]),
 (115, [(4, .reads [0, 1, 2, 3, 4, 5, 6, 7, 8, 9] [0, 0, 2, 0, 0, 16, 56, 120, 248, 511]), (7, .reads [0, 1, 2, 3, 4, 5, 7, 8, 9, 6, 10, 11] [0, 0, 2, 6, 0, 16, 63, 0, 128, 384, 1023, 2047])]),
 (116, [(9, .quiet [0, 1, 2, 3, 4, 5, 6, 7])]),
 (119, [(1, .quiet [0, 1, 2, 3, 4, 5, 6, 7, 8, 9, 10, 11, 12, 13, 14, 15, 16, 17, 18, 19, 20, 21, 22, 23, 24]), (2, .quiet [0, 1, 2, 3, 4, 5, 6, 7, 8, 9, 10]), (3, .reads [0, 1, 2, 4, 5, 3, 6, 7] [0, 0, 2, 7, 0, 16, 63, 127])]),
 (120, [(1, .reads [0, 1, 2, 3, 4, 5, 6, 11, 7, 8, 9, 10, 12, 13] [0, 1, 3, 7, 15, 0, 32, 127, 255, 511, 511, 0, 3071, 8191]), (6, .reads [0, 1, 2, 3, 4, 5, 6, 7, 8, 10, 11, 9, 12, 13, 14, 15, 16, 17, 18, 19, 20] [0, 1, 3, 7, 15, 31, 63, 15, 143, 511, 15, 1039, 4095, 8191, 16383, 32767, 65535, 131071, 262143, 524287, 1048575]), (10, .quiet [0, 1, 2, 3, 4, 5, 6, 7, 8, 9, 10, 11, 12, 13, 14]), (16, .reads [0, 1, 2, 3, 7, 8, 4, 5, 6, 9, 10] [0, 0, 0, 4, 14, 30, 62, 0, 128, 511, 1023]), (43, .reads [0, 1, 2, 3, 4, 5, 6, 7, 8, 9, 10, 11, 12] [0, 1, 0, 4, 12, 28, 60, 0, 0, 256, 896, 2047, 4095]), (45, .reads [0, 1, 2, 3, 4, 5, 6, 7, 8, 9, 10, 11, 12] [0, 1, 0, 4, 12, 28, 60, 0, 0, 256, 896, 2047, 4095]), (22, .reads [0, 1, 2, 3, 4, 5, 6, 7, 8, 9, 10, 11, 12] [0, 1, 0, 4, 12, 28, 60, 0, 0, 256, 896, 2047, 4095])]),
 (122, [(0, .quiet [0, 1, 2, 3, 4, 5, 6, 7, 8, 9]), (6, .quiet [0, 1, 2, 3, 4, 5, 6, 7, 8, 9, 10, 11])]),
 (123, [(1, .quiet [0, 1, 2, 3, 4, 5, 6, 7, 8, 9]), (4, .reads [0, 2, 4, 5, 6, 7, 8, 9, 10, 11, 12, 13, 15, 1, 3, 14, 16, 17] [0, 1, 0, 7, 0, 16, 48, 112, 0, 256, 768, 1792, 0, 7936, 16383, 0, 32767, 131071])]),
 (127, [(2, .quiet [0, 1, 2, 3, 4, 5, 6, 7, 8, 9, 10, 11, 12, 13, 14, 15, 16, 17, 18, 19])]),
 (144, [(1, .reads [0, 1, 2, 3, 4, 5, 6, 7, 8, 9, 10, 11, 12, 13, 14, 15, 16, 17, 18, 19] [0, 1, 3, 7, 15, 31, 63, 127, 255, 255, 1023, 2047, 4095, 4095, 12287, 28671, 65535, 131071, 262143, 524287])]),
 (147, [(7, .reads [0, 1, 2, 3, 4, 5, 6, 7, 8, 9, 10, 11, 12] [0, 1, 3, 7, 15, 15, 15, 111, 239, 495, 1023, 2047, 4095])]),
 (152, [(1, .quiet [0, 1, 2, 3, 4, 5, 6])]),
 (154, [(4, .quiet [0, 1, 2, 3, 4, 5, 6, 7, 8, 9, 10, 11, 12]), (5, .quiet [0, 1, 2, 3, 4, 5, 6, 7, 8, 9, 10, 11, 12, 13, 14])]),
 (155, [(1, .quiet [0, 1, 2, 3, 4, 5, 6, 7, 8, 9, 10, 11, 12, 13, 14, 15, 16, 17]), (4, .reads [0, 1, 2, 3, 4, 5, 7, 8, 6, 9, 10] [0, 0, 2, 6, 0, 16, 63, 0, 128, 511, 1023]), (12, .reads [0, 1, 2, 3, 4, 5, 6, 7, 8, 9, 10, 11, 12, 13] [0, 1, 0, 0, 0, 0, 48, 112, 252, 508, 1020, 2047, 4095, 8191])]),
 (156, [(9, .quiet [0, 1, 2, 3, 4, 5, 6, 7, 8, 9, 10]), (13, .reads [0, 1, 3, 4, 2, 5, 6, 7] [0, 1, 3, 0, 8, 31, 63, 127])]),
 (157, [(6, .reads [0, 1, 2, 3, 4, 5, 6, 7, 8, 10, 11, 12, 13, 15, 9, 14, 16] [0, 1, 3, 7, 0, 16, 48, 112, 240, 511, 0, 1024, 3072, 7168, 16383, 0, 65535])]),
 (158, [(1, .reads [0, 1, 2, 3, 4, 5, 7, 6, 8] [0, 0, 0, 4, 12, 28, 63, 0, 255]), (7, .reads [0, 1, 2, 3, 4, 5, 6, 7, 8, 9, 10, 11] [0, 1, 0, 0, 8, 24, 56, 124, 252, 511, 1023, 2047])]),
 (159, [(5, .reads [0, 1, 2, 3, 4, 5, 6, 7, 8, 9, 10, 11] [0, 1, 0, 0, 8, 24, 56, 124, 252, 511, 1023, 2047]), (10, .quiet [0, 1, 2, 3, 4, 5, 6, 7]), (12, .reads [0, 1, 2, 3, 4, 5, 6, 7, 8, 9, 10, 11] [0, 1, 0, 0, 8, 24, 56, 124, 252, 511, 1023, 2047]), (13, .reads [0, 1, 2, 3, 4, 5, 6, 7, 8, 10, 9, 11, 12, 13, 14, 15, 16] [0, 1, 0, 0, 0, 0, 32, 96, 224, 496, 0, 2040, 4092, 8188, 16383, 32767, 65535])]),
 (160, [(2, .reads [0, 1, 3, 2, 4] [0, 1, 3, 0, 15]), (3, .reads [0, 1, 3, 4, 6, 2, 5, 7] [0, 0, 3, 0, 8, 31, 0, 127]), (14, .reads [0, 1, 2, 3, 4, 5, 6, 7, 8, 9, 10] [0, 1, 0, 0, 8, 0, 60, 124, 255, 511, 1023])]),
 (161, [(1, .quiet [0, 1, 2, 3, 4, 5, 6, 7, 8, 9, 10, 11, 12, 13, 14])]),
 (164, [(1, .quiet [0, 1, 2, 3, 4, 5, 6, 7, 8, 9, 10, 11, 12])]),
 (186, [(1, .quiet [0, 1, 2, 3, 4, 5, 6, 7, 8, 9])]),
 (188, [(6, .quiet [0, 1, 2, 3, 4, 5, 6, 7, 8, 9, 10, 11, 12, 13, 14, 15, 16]), (9, .reads [0, 1, 2, 3, 4, 5, 6, 7] [0, 0, 2, 6, 14, 30, 1, 127]), (21, .reads [0, 1, 2, 3, 4, 5, 6, 7] [0, 0, 2, 6, 14, 30, 1, 127])]),
 (189, [(5, .reads [0, 1, 2, 3, 4, 5, 6, 7] [0, 0, 2, 6, 14, 30, 1, 127]), (17, .reads [0, 1, 2, 3, 4, 5, 6, 7, 8] [0, 0, 2, 6, 14, 0, 62, 1, 255])]),
 (190, [(3, .reads [0, 1, 2, 3, 4, 5, 6, 7] [0, 0, 2, 6, 14, 30, 1, 127]), (8, .quiet [0, 1, 2, 3, 4, 5, 6, 7, 8, 9, 10, 11, 12, 13, 14, 15, 16])]),
 (199, [(2, .reads [0, 1, 2, 3, 4, 5, 6, 7, 8, 9, 10, 11, 12, 13, 14] [0, 1, 3, 7, 15, 31, 63, 127, 255, 255, 767, 1791, 4095, 8191, 16383])]),
 (201, [(4, .reads [0, 1, 2, 3, 4, 5, 6, 7, 8] [0, 1, 0, 0, 8, 0, 56, 127, 255]), (11, .quiet [0, 1, 2, 3, 4, 5, 6, 7, 8, 9, 10, 11, 12, 13]), (20, .quiet [0, 1, 2, 3, 4, 5, 6, 7, 8, 9]), (22, .reads [0, 1, 2, 4, 7, 3, 5, 6, 8] [0, 1, 3, 7, 3, 31, 63, 0, 255]), (27, .reads [0, 1, 2, 3, 4, 5, 6, 7, 11, 8, 9, 10, 12] [0, 1, 3, 7, 0, 16, 48, 112, 255, 511, 1023, 0, 4095]), (28, .quiet [0, 1, 2, 3, 4, 5, 6, 7, 8, 9, 10, 11, 12, 13, 14, 15, 16, 17]), (32, .reads [0, 1, 2, 3, 5, 4, 6] [0, 1, 3, 7, 15, 0, 63]), (33, .reads [0, 1, 2, 3, 5, 4, 6, 7] [0, 1, 0, 4, 12, 0, 63, 127]), (34, .reads [0, 1, 2, 3, 4, 5, 6, 7, 8, 9] [0, 1, 0, 4, 12, 28, 0, 64, 255, 511])]),
 (202, [(5, .reads [0, 2, 3, 5, 1, 4, 6] [0, 1, 0, 4, 15, 0, 63]), (9, .reads [0, 1, 2, 4, 5, 3, 6, 7] [0, 0, 0, 7, 0, 16, 15, 127])]),
 (203, [(1, .quiet [0, 1, 2, 3, 4, 5, 6, 7, 8, 9, 10, 11, 12, 13, 14, 15, 16, 17]), (5, .reads [0, 2, 4, 1, 3, 5] [0, 1, 0, 7, 0, 31]), (10, .reads [0, 1, 2, 3, 4, 5, 6, 7, 8] [0, 1, 0, 4, 12, 28, 63, 127, 255])]),
 (205, [(1, .reads [0, 1, 2, 3, 4, 5, 6] [0, 0, 2, 6, 0, 17, 63]), (4, .reads [0, 1, 2, 4, 15, 3, 5, 6, 7, 8, 9, 10, 11, 12, 13, 14, 16] [0, 1, 0, 7, 0, 31, 63, 127, 255, 127, 639, 1663, 3711, 8191, 16383, 0, 65535])]),
 (207, [(7, .quiet [0, 1, 2, 3, 4, 5, 6, 7])]),
 (208, [(4, .quiet [0, 1, 2, 3, 4, 5, 6, 7, 8, 9, 10, 11, 12]), (5, .quiet [0, 1, 2, 3, 4, 5, 6, 7, 8, 9, 10, 11, 12, 13, 14])]),
 (209, [(1, .quiet [0, 1, 2, 3, 4, 5, 6, 7]), (3, .quiet [0, 1, 2, 3, 4, 5, 6, 7, 8, 9, 10, 11, 12, 13])]),
 (210, [(0, .quiet [0, 1, 2, 3, 4, 5, 6, 7, 8, 9, 10, 11, 12, 13, 14])]),
 (217, [(1, .reads [0, 1, 2, 3, 5, 6, 7, 8, 9, 4, 10, 11] [0, 1, 3, 7, 15, 0, 32, 96, 224, 480, 1023, 2047])]),
 (221, [(6, .reads [0, 1, 2, 3, 4, 5, 6, 7] [0, 1, 0, 4, 12, 31, 63, 127])]),
 (225, [(6, .quiet [0, 1, 2, 3, 4, 5, 6, 7, 8, 9, 10, 11, 12, 13, 14])]),
 (226, [(6, .quiet [0, 1, 2, 3, 4, 5])]),
 (231, [(1, .quiet [0, 1, 2, 3, 4, 5, 6, 7, 8, 9, 10])]),
 (238, [(3, .reads [0, 1, 2, 3, 4, 5, 6, 7] [0, 1, 0, 4, 12, 31, 63, 127]), (4, .reads [0, 1, 2, 3, 4, 5, 6, 7, 8, 9] [0, 1, 0, 0, 8, 28, 60, 127, 255, 511]), (6, .reads [0, 1, 2, 3, 4, 5, 6, 7, 8, 9] [0, 1, 0, 0, 8, 28, 60, 127, 255, 511]), (8, .reads [0, 1, 2, 3, 4, 5, 6, 7, 8, 9] [0, 1, 0, 0, 8, 28, 60, 127, 255, 511]), (9, .reads [0, 1, 2, 3, 4, 5, 6, 7] [0, 1, 0, 4, 12, 31, 63, 127])]),
 (240, [(8, .reads [0, 1, 2, 3, 4, 5, 6, 7] [0, 1, 0, 4, 12, 31, 63, 127])]),
 (248, [(8, .reads [0, 1, 2, 3, 4, 5, 6, 7] [0, 0, 0, 4, 14, 31, 63, 127])]),
 (250, [(5, .reads [0, 1, 2, 3, 4, 5, 6, 7] [0, 1, 0, 4, 12, 31, 63, 127]), (6, .reads [0, 1, 2, 3, 4, 5, 6, 7] [0, 1, 0, 4, 12, 31, 63, 127])]),
 (252, [(2, .reads [0, 1, 2, 3, 4, 5] [0, 1, 0, 4, 15, 31])]),
 (255, [(2, .reads [0, 1, 2, 3, 4, 5, 6, 7] [0, 1, 0, 4, 0, 16, 63, 127])]),
 (256, [(2, .reads [0, 1, 2, 3, 4, 5, 6, 7, 8] [0, 1, 0, 0, 8, 24, 60, 127, 255])]),
 (257, [(5, .reads [0, 1, 2, 4, 5, 7, 3, 6, 8] [0, 1, 3, 7, 0, 16, 63, 0, 255])]),
 (260, [(2, .reads [0, 1, 2, 3, 4] [0, 0, 2, 7, 15])]),
 (270, [(15, .reads [0, 3, 1, 2, 4, 5, 6, 7] [0, 1, 3, 0, 11, 31, 63, 127])])]
def thePlans (f : FuncId) (id : Nat) : Option PI := match lookN f planTab with
 | some l => lookN id l
 | none => none
noncomputable def planChk (f : Nat) : Bool := match theTabs.func f with
 | some fn => (match fn.body with
  | some c => plansOK (thePlans f) c
  | none => true)
 | none => true
theorem planChk_all : (List.range 291).all planChk = true := by kernel_rfl
theorem tab_end : ∀ f, 291 ≤ f → theTabs.func f = none := by
 intro f hf
 have hs : Tryz.prog.funcs.size = 291 := by kernel_rfl
 exact tabsOf_end hs hf
theorem thePlans_ok : ∀ f fn c, theTabs.func f = some fn → fn.body = some c → plansOK (thePlans f) c = true := by
 intro f fn c hf hc
 rcases Nat.lt_or_ge f 291 with h | h
 · have := List.all_eq_true.1 planChk_all f (by rw [List.mem_range]; exact h)
   unfold planChk at this
   rw [hf] at this
   dsimp only at this
   rw [hc] at this
   exact this
 · rw [tab_end f h] at hf; cases hf
end G
end Go.Proofs.YtmjmpaceopipbaaGreat
namespace Go.Proofs.YtmjmpaceopipbaaGreat
namespace X
open Go B Go.Proofs
def scs (n : Nat) : List VA := List.replicate n .sc
def typAt (i : Nat) : SV := .agg [.x i, .x (i + 1), .x (i + 2), .x (i + 3), .x (i + 4)]
def typVA : List VA := [.sc, .sc, .sh false, .sc, .sc]
def tmAt (i : Nat) : SV := .agg [.x i, .x (i + 1), .x (i + 2), .x (i + 3), .x (i + 4)]
def tmVA : List VA := [.sc, .sc, .sc, .sc, .sh false]
def tmVF : List VA := [.sc, .sc, .sc, .sc, .sh true]
def fnAt (i : Nat) : SV := .agg [.x i, .x (i + 1), .x (i + 2), .x (i + 3), .x (i + 4), .x (i + 5), .x (i + 6), .x (i + 7), .x (i + 8), .x (i + 9)]
def fnVA : List VA := [.sc, .sh false, .sh false, .sh false, .sc, .sc, .sc, .sc, .sh false, .sc]
def proAt (i : Nat) : SV := .agg [.x i, .x (i + 1)]
def ls1 : List VA := [.sh false]
def ls2 : List VA := [.sh false, .sh false]
def sB (f : Nat) (args : List SV) (va : List VA) : Sig := ⟨f, args, [], va, [⟨1, false, .x va.length, [], va ++ [.sc]⟩]⟩
def sL (f : Nat) (args : List SV) (va : List VA) : Sig := ⟨f, args, [], va, [⟨1, false, .x va.length, [], va ++ [.sh false]⟩]⟩
def engAll : List (Nat × Sig) := [
 (3001, sB 10 [tmAt 0, .x 5] (tmVA ++ [.sc])), (3002, sB 4 [proAt 0, .x 2] (ls2 ++ [.sc])),
 (3003, sB 32 [.x 0, .x 1] ls2), (3004, sL 12 [.x 0] ls1), (3005, sB 25 [.x 0, .x 1] ls2),
 (3006, sB 31 [.x 0, .x 1] ls2), (3007, sL 11 [.x 0] ls1), (3008, sB 24 [.x 0, .x 1] ls2),
 (3009, ⟨13, [tmAt 0], [], tmVA, [⟨5, false, tmAt 5, [], tmVA ++ tmVF⟩]⟩), (3010, sB 26 [tmAt 0, tmAt 5] (tmVA ++ tmVA)),
 (3011, ⟨5, [proAt 0], [], ls2, [⟨2, false, proAt 2, [], ls2 ++ [.sh false, .sh false]⟩]⟩), (3012, sB 8 [proAt 0, proAt 2] (ls2 ++ ls2)),
 (3013, sB 18 [tmAt 0, tmAt 5] (tmVA ++ tmVA)), (3014, sB 30 [.x 0, .x 1, .fn 18 []] ls2),
 (3015, sB 17 [.x 0, .x 1] ls2), (3016, sB 15 [.x 0, .x 1] ls2),
 (3017, sB 19 [.x 0, .x 1, .fn 14 []] ls2),
 (3018, sB 20 [.x 0, .x 1, .fn 16 []] ls2),
 (3019, sB 14 [typAt 0, typAt 5] (typVA ++ typVA)), (3020, sB 16 [fnAt 0, fnAt 10] (fnVA ++ fnVA)),
 (3021, sB 6 [proAt 0, proAt 2] (ls2 ++ ls2)),
 (3022, sB 21 [typAt 0, typAt 5] (typVA ++ typVA)), (3023, sB 22 [.x 0, .x 1] ls2), (3024, sB 23 [tmAt 0, tmAt 5] (tmVA ++ tmVA)),
 (3025, sB 7 [proAt 0, proAt 2] (ls2 ++ ls2)), (3026, sB 3 [proAt 0, proAt 2] (ls2 ++ ls2))]
def hndAll : List (Nat × Sig) := [(3030, sB 9 [] [])]
def str (l : List UInt8) : ByteArray := ⟨l.toArray⟩
noncomputable def prg : Prg := ⟨theTabs, engAll, hndAll, fun _ => false, fun _ => 0, fun t => Nat.beq t 45⟩
theorem ML_tree {hand : FunT} {j : Nat} {t : FT} (h : (getSig prg.eng j).map (xfun prg.cfg) = some t) (ρ : List D) : ML prg hand j ρ = finO (dentL theTabs (ML prg hand) t ρ) := by
 cases hs : getSig prg.eng j with
 | none => rw [hs] at h; cases h
 | some s =>
  rw [hs] at h
  simp only [Option.map_some, Option.some.injEq] at h
  rw [ML_eq hs, h]; rfl
end X
end Go.Proofs.YtmjmpaceopipbaaGreat
namespace Go.Proofs.YtmjmpaceopipbaaGreat
namespace G
open Go B Go.Proofs
def nbX : NoBody := nbIbs 233
theorem gokX : GOK Tryz.prog theTabs nbX 291 := ⟨theTabs_ok, theTabs_en, nbIbs_ok Tryz.func233 (by kernel_rfl) (by kernel_rfl) (by kernel_rfl) (by kernel_rfl), by kernel_rfl⟩
noncomputable def runX (f : FuncId) (args : List Value) : Option AEnd := runH Tryz.prog theTabs nbX 291 thePlans 3000 f args
theorem runX_ok {f : FuncId} {args : List Value} {v : Value} (h : isRetV (runX f args) v = true) : ∃ H', theCall Tryz.prog ext0 f args ⟨0, fun _ => none⟩ = some (.ret v, H') := runH_ok gokX thePlans_ok (isRetV_eq h)
theorem works_true : isRetV (runX 9 []) (.bool true) = true := by kernel_rfl
def tblX : Tbl := fun f args => bif Nat.beq f 9 then (match args with
    | [] => some (.bool true)
    | _ => none)
 else none
theorem tblX_ok : TblOK Tryz.prog tblX := by
 refine ⟨fun f args v h => ?_⟩
 unfold tblX at h
 cases h1 : Nat.beq f 9 with
 | false => rw [h1, cond_false] at h; cases h
 | true =>
  rw [h1, cond_true] at h
  obtain rfl := Nat.eq_of_beq_eq_true h1
  split at h
  case h_2 => cases h
  simp only [Option.some.injEq] at h
  subst h
  exact ⟨⟨_, Tryz.func9⟩, rfl, rfl, runX_ok works_true⟩
theorem extX_none {f : FuncId} (h : Nat.beq f 9 = false) (args : List Value) (H : AHeap) : extT tblX f args H = none := by
 unfold extT tblX
 rw [h]; rfl
theorem extX_works (H : AHeap) : extT tblX 9 [] H = some (.ret (.bool true), H) := rfl
end G
end Go.Proofs.YtmjmpaceopipbaaGreat
