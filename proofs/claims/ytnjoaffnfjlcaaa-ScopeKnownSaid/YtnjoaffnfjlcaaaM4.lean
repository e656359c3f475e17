/-
  Joined by program out of Facts, Find, Clos, Findf.
-/
import Derived.Test.YtnjoaffnfjlcaaaM3
import Derived.Test.YtnjoaffnfjlcaaaChecked
import Derived.KernelRfl
import Derived.IntWalk
namespace Go.Proofs.Ytnjoaffnfjlcaaa
namespace B
open Go Go.Proofs

theorem inf0 : Tables.info? Try.prog.toTables 0 = some Try.t0 := info_of Try.types_size (by decide) Try.type0
theorem info0 : (Tables.info? Try.prog.toTables 0).isSome = true := isSome_of inf0
theorem cells0 : Program.cellsOf Try.prog 0 = 1 := cells_of inf0 rfl
theorem inf1 : Tables.info? Try.prog.toTables 1 = some Try.t1 := info_of Try.types_size (by decide) Try.type1
theorem info1 : (Tables.info? Try.prog.toTables 1).isSome = true := isSome_of inf1
theorem cells1 : Program.cellsOf Try.prog 1 = 1 := cells_of inf1 rfl
theorem agg1 : aggT Try.prog 1 = some false := agg_of Try.underlying1 rfl
theorem inf2 : Tables.info? Try.prog.toTables 2 = some Try.t2 := info_of Try.types_size (by decide) Try.type2
theorem info2 : (Tables.info? Try.prog.toTables 2).isSome = true := isSome_of inf2
theorem cells2 : Program.cellsOf Try.prog 2 = 1 := cells_of inf2 rfl
theorem agg2 : aggT Try.prog 2 = some false := agg_of Try.underlying2 rfl
theorem inf3 : Tables.info? Try.prog.toTables 3 = some Try.t3 := info_of Try.types_size (by decide) Try.type3
theorem info3 : (Tables.info? Try.prog.toTables 3).isSome = true := isSome_of inf3
theorem cells3 : Program.cellsOf Try.prog 3 = 1 := cells_of inf3 rfl
theorem agg3 : aggT Try.prog 3 = some false := agg_of Try.underlying3 rfl
theorem inf4 : Tables.info? Try.prog.toTables 4 = some Try.t4 := info_of Try.types_size (by decide) Try.type4
theorem info4 : (Tables.info? Try.prog.toTables 4).isSome = true := isSome_of inf4
theorem cells4 : Program.cellsOf Try.prog 4 = 1 := cells_of inf4 rfl
theorem agg4 : aggT Try.prog 4 = some false := agg_of Try.underlying4 rfl
theorem ub4 : Program.underlying Try.prog 4 = some .bool := und_of Try.underlying4
theorem inf5 : Tables.info? Try.prog.toTables 5 = some Try.t5 := info_of Try.types_size (by decide) Try.type5
theorem info5 : (Tables.info? Try.prog.toTables 5).isSome = true := isSome_of inf5
theorem cells5 : Program.cellsOf Try.prog 5 = 1 := cells_of inf5 rfl
theorem agg5 : aggT Try.prog 5 = some false := agg_of Try.underlying5 rfl
theorem inf6 : Tables.info? Try.prog.toTables 6 = some Try.t6 := info_of Try.types_size (by decide) Try.type6
theorem info6 : (Tables.info? Try.prog.toTables 6).isSome = true := isSome_of inf6
theorem cells6 : Program.cellsOf Try.prog 6 = 1 := cells_of inf6 rfl
theorem agg6 : aggT Try.prog 6 = some false := agg_of Try.underlying6 rfl
theorem inf7 : Tables.info? Try.prog.toTables 7 = some Try.t7 := info_of Try.types_size (by decide) Try.type7
theorem info7 : (Tables.info? Try.prog.toTables 7).isSome = true := isSome_of inf7
theorem cells7 : Program.cellsOf Try.prog 7 = 4 := cells_of inf7 rfl
theorem agg7 : aggT Try.prog 7 = some true := agg_of Try.underlying7 rfl
theorem inf8 : Tables.info? Try.prog.toTables 8 = some Try.t8 := info_of Try.types_size (by decide) Try.type8
theorem info8 : (Tables.info? Try.prog.toTables 8).isSome = true := isSome_of inf8
theorem cells8 : Program.cellsOf Try.prog 8 = 4 := cells_of inf8 rfl
theorem agg8 : aggT Try.prog 8 = some true := agg_of Try.underlying8 rfl
theorem inf9 : Tables.info? Try.prog.toTables 9 = some Try.t9 := info_of Try.types_size (by decide) Try.type9
theorem info9 : (Tables.info? Try.prog.toTables 9).isSome = true := isSome_of inf9
theorem cells9 : Program.cellsOf Try.prog 9 = 1 := cells_of inf9 rfl
theorem agg9 : aggT Try.prog 9 = some false := agg_of Try.underlying9 rfl
theorem us9 : Program.underlying Try.prog 9 = some .string := und_of Try.underlying9
theorem inf10 : Tables.info? Try.prog.toTables 10 = some Try.t10 := info_of Try.types_size (by decide) Try.type10
theorem info10 : (Tables.info? Try.prog.toTables 10).isSome = true := isSome_of inf10
theorem cells10 : Program.cellsOf Try.prog 10 = 1 := cells_of inf10 rfl
theorem agg10 : aggT Try.prog 10 = some false := agg_of Try.underlying10 rfl
theorem us10 : Program.underlying Try.prog 10 = some .string := und_of Try.underlying10
theorem inf11 : Tables.info? Try.prog.toTables 11 = some Try.t11 := info_of Try.types_size (by decide) Try.type11
theorem info11 : (Tables.info? Try.prog.toTables 11).isSome = true := isSome_of inf11
theorem cells11 : Program.cellsOf Try.prog 11 = 1 := cells_of inf11 rfl
theorem agg11 : aggT Try.prog 11 = some false := agg_of Try.underlying11 rfl
theorem us11 : Program.underlying Try.prog 11 = some .string := und_of Try.underlying11
theorem inf12 : Tables.info? Try.prog.toTables 12 = some Try.t12 := info_of Try.types_size (by decide) Try.type12
theorem info12 : (Tables.info? Try.prog.toTables 12).isSome = true := isSome_of inf12
theorem cells12 : Program.cellsOf Try.prog 12 = 1 := cells_of inf12 rfl
theorem agg12 : aggT Try.prog 12 = some false := agg_of Try.underlying12 rfl
theorem inf13 : Tables.info? Try.prog.toTables 13 = some Try.t13 := info_of Try.types_size (by decide) Try.type13
theorem info13 : (Tables.info? Try.prog.toTables 13).isSome = true := isSome_of inf13
theorem cells13 : Program.cellsOf Try.prog 13 = 2 := cells_of inf13 rfl
theorem agg13 : aggT Try.prog 13 = some true := agg_of Try.underlying13 rfl
theorem inf14 : Tables.info? Try.prog.toTables 14 = some Try.t14 := info_of Try.types_size (by decide) Try.type14
theorem info14 : (Tables.info? Try.prog.toTables 14).isSome = true := isSome_of inf14
theorem cells14 : Program.cellsOf Try.prog 14 = 2 := cells_of inf14 rfl
theorem agg14 : aggT Try.prog 14 = some true := agg_of Try.underlying14 rfl
theorem inf15 : Tables.info? Try.prog.toTables 15 = some Try.t15 := info_of Try.types_size (by decide) Try.type15
theorem info15 : (Tables.info? Try.prog.toTables 15).isSome = true := isSome_of inf15
theorem cells15 : Program.cellsOf Try.prog 15 = 1 := cells_of inf15 rfl
theorem agg15 : aggT Try.prog 15 = some false := agg_of Try.underlying15 rfl
theorem isp15 : isPtr Try.prog 15 = true := isPtr_of Try.underlying15
theorem inf16 : Tables.info? Try.prog.toTables 16 = some Try.t16 := info_of Try.types_size (by decide) Try.type16
theorem info16 : (Tables.info? Try.prog.toTables 16).isSome = true := isSome_of inf16
theorem cells16 : Program.cellsOf Try.prog 16 = 1 := cells_of inf16 rfl
theorem agg16 : aggT Try.prog 16 = some false := agg_of Try.underlying16 rfl
theorem isp16 : isPtr Try.prog 16 = true := isPtr_of Try.underlying16
theorem inf17 : Tables.info? Try.prog.toTables 17 = some Try.t17 := info_of Try.types_size (by decide) Try.type17
theorem info17 : (Tables.info? Try.prog.toTables 17).isSome = true := isSome_of inf17
theorem cells17 : Program.cellsOf Try.prog 17 = 1 := cells_of inf17 rfl
theorem agg17 : aggT Try.prog 17 = some false := agg_of Try.underlying17 rfl
theorem isp17 : isPtr Try.prog 17 = true := isPtr_of Try.underlying17
theorem inf18 : Tables.info? Try.prog.toTables 18 = some Try.t18 := info_of Try.types_size (by decide) Try.type18
theorem info18 : (Tables.info? Try.prog.toTables 18).isSome = true := isSome_of inf18
theorem cells18 : Program.cellsOf Try.prog 18 = 1 := cells_of inf18 rfl
theorem agg18 : aggT Try.prog 18 = some true := agg_of Try.underlying18 rfl
theorem inf19 : Tables.info? Try.prog.toTables 19 = some Try.t19 := info_of Try.types_size (by decide) Try.type19
theorem info19 : (Tables.info? Try.prog.toTables 19).isSome = true := isSome_of inf19
theorem cells19 : Program.cellsOf Try.prog 19 = 1 := cells_of inf19 rfl
theorem agg19 : aggT Try.prog 19 = some true := agg_of Try.underlying19 rfl
theorem inf20 : Tables.info? Try.prog.toTables 20 = some Try.t20 := info_of Try.types_size (by decide) Try.type20
theorem info20 : (Tables.info? Try.prog.toTables 20).isSome = true := isSome_of inf20
theorem cells20 : Program.cellsOf Try.prog 20 = 1 := cells_of inf20 rfl
theorem agg20 : aggT Try.prog 20 = some false := agg_of Try.underlying20 rfl
theorem inf21 : Tables.info? Try.prog.toTables 21 = some Try.t21 := info_of Try.types_size (by decide) Try.type21
theorem info21 : (Tables.info? Try.prog.toTables 21).isSome = true := isSome_of inf21
theorem cells21 : Program.cellsOf Try.prog 21 = 1 := cells_of inf21 rfl
theorem agg21 : aggT Try.prog 21 = some false := agg_of Try.underlying21 rfl
theorem inf22 : Tables.info? Try.prog.toTables 22 = some Try.t22 := info_of Try.types_size (by decide) Try.type22
theorem info22 : (Tables.info? Try.prog.toTables 22).isSome = true := isSome_of inf22
theorem cells22 : Program.cellsOf Try.prog 22 = 1 := cells_of inf22 rfl
theorem agg22 : aggT Try.prog 22 = some false := agg_of Try.underlying22 rfl
theorem isl22 : isSlice Try.prog 22 = true := isSlice_of Try.underlying22
theorem inf23 : Tables.info? Try.prog.toTables 23 = some Try.t23 := info_of Try.types_size (by decide) Try.type23
theorem info23 : (Tables.info? Try.prog.toTables 23).isSome = true := isSome_of inf23
theorem cells23 : Program.cellsOf Try.prog 23 = 1 := cells_of inf23 rfl
theorem agg23 : aggT Try.prog 23 = some false := agg_of Try.underlying23 rfl
theorem isp23 : isPtr Try.prog 23 = true := isPtr_of Try.underlying23
theorem inf24 : Tables.info? Try.prog.toTables 24 = some Try.t24 := info_of Try.types_size (by decide) Try.type24
theorem info24 : (Tables.info? Try.prog.toTables 24).isSome = true := isSome_of inf24
theorem cells24 : Program.cellsOf Try.prog 24 = 1 := cells_of inf24 rfl
theorem agg24 : aggT Try.prog 24 = some false := agg_of Try.underlying24 rfl
theorem inf25 : Tables.info? Try.prog.toTables 25 = some Try.t25 := info_of Try.types_size (by decide) Try.type25
theorem info25 : (Tables.info? Try.prog.toTables 25).isSome = true := isSome_of inf25
theorem cells25 : Program.cellsOf Try.prog 25 = 1 := cells_of inf25 rfl
theorem inf26 : Tables.info? Try.prog.toTables 26 = some Try.t26 := info_of Try.types_size (by decide) Try.type26
theorem info26 : (Tables.info? Try.prog.toTables 26).isSome = true := isSome_of inf26
theorem cells26 : Program.cellsOf Try.prog 26 = 1 := cells_of inf26 rfl
theorem agg26 : aggT Try.prog 26 = some false := agg_of Try.underlying26 rfl
theorem inf27 : Tables.info? Try.prog.toTables 27 = some Try.t27 := info_of Try.types_size (by decide) Try.type27
theorem info27 : (Tables.info? Try.prog.toTables 27).isSome = true := isSome_of inf27
theorem cells27 : Program.cellsOf Try.prog 27 = 1 := cells_of inf27 rfl
theorem inf28 : Tables.info? Try.prog.toTables 28 = some Try.t28 := info_of Try.types_size (by decide) Try.type28
theorem info28 : (Tables.info? Try.prog.toTables 28).isSome = true := isSome_of inf28
theorem cells28 : Program.cellsOf Try.prog 28 = 1 := cells_of inf28 rfl
theorem agg28 : aggT Try.prog 28 = some false := agg_of Try.underlying28 rfl
theorem inf29 : Tables.info? Try.prog.toTables 29 = some Try.t29 := info_of Try.types_size (by decide) Try.type29
theorem info29 : (Tables.info? Try.prog.toTables 29).isSome = true := isSome_of inf29
theorem cells29 : Program.cellsOf Try.prog 29 = 1 := cells_of inf29 rfl
theorem agg29 : aggT Try.prog 29 = some false := agg_of Try.underlying29 rfl
theorem inf30 : Tables.info? Try.prog.toTables 30 = some Try.t30 := info_of Try.types_size (by decide) Try.type30
theorem info30 : (Tables.info? Try.prog.toTables 30).isSome = true := isSome_of inf30
theorem cells30 : Program.cellsOf Try.prog 30 = 1 := cells_of inf30 rfl
theorem inf31 : Tables.info? Try.prog.toTables 31 = some Try.t31 := info_of Try.types_size (by decide) Try.type31
theorem info31 : (Tables.info? Try.prog.toTables 31).isSome = true := isSome_of inf31
theorem cells31 : Program.cellsOf Try.prog 31 = 1 := cells_of inf31 rfl
theorem agg31 : aggT Try.prog 31 = some false := agg_of Try.underlying31 rfl
theorem inf32 : Tables.info? Try.prog.toTables 32 = some Try.t32 := info_of Try.types_size (by decide) Try.type32
theorem info32 : (Tables.info? Try.prog.toTables 32).isSome = true := isSome_of inf32
theorem cells32 : Program.cellsOf Try.prog 32 = 1 := cells_of inf32 rfl
theorem agg32 : aggT Try.prog 32 = some false := agg_of Try.underlying32 rfl
theorem isl32 : isSlice Try.prog 32 = true := isSlice_of Try.underlying32
theorem inf33 : Tables.info? Try.prog.toTables 33 = some Try.t33 := info_of Try.types_size (by decide) Try.type33
theorem info33 : (Tables.info? Try.prog.toTables 33).isSome = true := isSome_of inf33
theorem cells33 : Program.cellsOf Try.prog 33 = 1 := cells_of inf33 rfl
theorem agg33 : aggT Try.prog 33 = some false := agg_of Try.underlying33 rfl
theorem inf34 : Tables.info? Try.prog.toTables 34 = some Try.t34 := info_of Try.types_size (by decide) Try.type34
theorem info34 : (Tables.info? Try.prog.toTables 34).isSome = true := isSome_of inf34
theorem cells34 : Program.cellsOf Try.prog 34 = 1 := cells_of inf34 rfl
theorem agg34 : aggT Try.prog 34 = some false := agg_of Try.underlying34 rfl
theorem inf35 : Tables.info? Try.prog.toTables 35 = some Try.t35 := info_of Try.types_size (by decide) Try.type35
theorem info35 : (Tables.info? Try.prog.toTables 35).isSome = true := isSome_of inf35
theorem cells35 : Program.cellsOf Try.prog 35 = 1 := cells_of inf35 rfl
theorem agg35 : aggT Try.prog 35 = some false := agg_of Try.underlying35 rfl
theorem inf36 : Tables.info? Try.prog.toTables 36 = some Try.t36 := info_of Try.types_size (by decide) Try.type36
theorem info36 : (Tables.info? Try.prog.toTables 36).isSome = true := isSome_of inf36
theorem cells36 : Program.cellsOf Try.prog 36 = 1 := cells_of inf36 rfl
theorem agg36 : aggT Try.prog 36 = some false := agg_of Try.underlying36 rfl
theorem inf37 : Tables.info? Try.prog.toTables 37 = some Try.t37 := info_of Try.types_size (by decide) Try.type37
theorem info37 : (Tables.info? Try.prog.toTables 37).isSome = true := isSome_of inf37
theorem cells37 : Program.cellsOf Try.prog 37 = 4 := cells_of inf37 rfl
theorem agg37 : aggT Try.prog 37 = some true := agg_of Try.underlying37 rfl
theorem inf38 : Tables.info? Try.prog.toTables 38 = some Try.t38 := info_of Try.types_size (by decide) Try.type38
theorem info38 : (Tables.info? Try.prog.toTables 38).isSome = true := isSome_of inf38
theorem cells38 : Program.cellsOf Try.prog 38 = 4 := cells_of inf38 rfl
theorem agg38 : aggT Try.prog 38 = some true := agg_of Try.underlying38 rfl
theorem inf39 : Tables.info? Try.prog.toTables 39 = some Try.t39 := info_of Try.types_size (by decide) Try.type39
theorem info39 : (Tables.info? Try.prog.toTables 39).isSome = true := isSome_of inf39
theorem cells39 : Program.cellsOf Try.prog 39 = 1 := cells_of inf39 rfl
theorem agg39 : aggT Try.prog 39 = some false := agg_of Try.underlying39 rfl
theorem inf40 : Tables.info? Try.prog.toTables 40 = some Try.t40 := info_of Try.types_size (by decide) Try.type40
theorem info40 : (Tables.info? Try.prog.toTables 40).isSome = true := isSome_of inf40
theorem cells40 : Program.cellsOf Try.prog 40 = 1 := cells_of inf40 rfl
theorem agg40 : aggT Try.prog 40 = some false := agg_of Try.underlying40 rfl
theorem inf41 : Tables.info? Try.prog.toTables 41 = some Try.t41 := info_of Try.types_size (by decide) Try.type41
theorem info41 : (Tables.info? Try.prog.toTables 41).isSome = true := isSome_of inf41
theorem cells41 : Program.cellsOf Try.prog 41 = 1 := cells_of inf41 rfl
theorem agg41 : aggT Try.prog 41 = some false := agg_of Try.underlying41 rfl
theorem inf42 : Tables.info? Try.prog.toTables 42 = some Try.t42 := info_of Try.types_size (by decide) Try.type42
theorem info42 : (Tables.info? Try.prog.toTables 42).isSome = true := isSome_of inf42
theorem cells42 : Program.cellsOf Try.prog 42 = 1 := cells_of inf42 rfl
theorem agg42 : aggT Try.prog 42 = some false := agg_of Try.underlying42 rfl
theorem inf43 : Tables.info? Try.prog.toTables 43 = some Try.t43 := info_of Try.types_size (by decide) Try.type43
theorem info43 : (Tables.info? Try.prog.toTables 43).isSome = true := isSome_of inf43
theorem cells43 : Program.cellsOf Try.prog 43 = 1 := cells_of inf43 rfl
theorem agg43 : aggT Try.prog 43 = some false := agg_of Try.underlying43 rfl
theorem isp43 : isPtr Try.prog 43 = true := isPtr_of Try.underlying43
theorem inf44 : Tables.info? Try.prog.toTables 44 = some Try.t44 := info_of Try.types_size (by decide) Try.type44
theorem info44 : (Tables.info? Try.prog.toTables 44).isSome = true := isSome_of inf44
theorem cells44 : Program.cellsOf Try.prog 44 = 1 := cells_of inf44 rfl
theorem agg44 : aggT Try.prog 44 = some false := agg_of Try.underlying44 rfl
theorem inf45 : Tables.info? Try.prog.toTables 45 = some Try.t45 := info_of Try.types_size (by decide) Try.type45
theorem info45 : (Tables.info? Try.prog.toTables 45).isSome = true := isSome_of inf45
theorem cells45 : Program.cellsOf Try.prog 45 = 1 := cells_of inf45 rfl
theorem agg45 : aggT Try.prog 45 = some false := agg_of Try.underlying45 rfl
theorem inf46 : Tables.info? Try.prog.toTables 46 = some Try.t46 := info_of Try.types_size (by decide) Try.type46
theorem info46 : (Tables.info? Try.prog.toTables 46).isSome = true := isSome_of inf46
theorem cells46 : Program.cellsOf Try.prog 46 = 1 := cells_of inf46 rfl
theorem agg46 : aggT Try.prog 46 = some false := agg_of Try.underlying46 rfl
theorem inf47 : Tables.info? Try.prog.toTables 47 = some Try.t47 := info_of Try.types_size (by decide) Try.type47
theorem info47 : (Tables.info? Try.prog.toTables 47).isSome = true := isSome_of inf47
theorem cells47 : Program.cellsOf Try.prog 47 = 1 := cells_of inf47 rfl
theorem agg47 : aggT Try.prog 47 = some false := agg_of Try.underlying47 rfl
theorem inf48 : Tables.info? Try.prog.toTables 48 = some Try.t48 := info_of Try.types_size (by decide) Try.type48
theorem info48 : (Tables.info? Try.prog.toTables 48).isSome = true := isSome_of inf48
theorem cells48 : Program.cellsOf Try.prog 48 = 1 := cells_of inf48 rfl
theorem agg48 : aggT Try.prog 48 = some false := agg_of Try.underlying48 rfl
theorem isl48 : isSlice Try.prog 48 = true := isSlice_of Try.underlying48
theorem inf49 : Tables.info? Try.prog.toTables 49 = some Try.t49 := info_of Try.types_size (by decide) Try.type49
theorem info49 : (Tables.info? Try.prog.toTables 49).isSome = true := isSome_of inf49
theorem cells49 : Program.cellsOf Try.prog 49 = 1 := cells_of inf49 rfl
theorem agg49 : aggT Try.prog 49 = some true := agg_of Try.underlying49 rfl
theorem inf50 : Tables.info? Try.prog.toTables 50 = some Try.t50 := info_of Try.types_size (by decide) Try.type50
theorem info50 : (Tables.info? Try.prog.toTables 50).isSome = true := isSome_of inf50
theorem cells50 : Program.cellsOf Try.prog 50 = 1 := cells_of inf50 rfl
theorem agg50 : aggT Try.prog 50 = some true := agg_of Try.underlying50 rfl
theorem inf51 : Tables.info? Try.prog.toTables 51 = some Try.t51 := info_of Try.types_size (by decide) Try.type51
theorem info51 : (Tables.info? Try.prog.toTables 51).isSome = true := isSome_of inf51
theorem cells51 : Program.cellsOf Try.prog 51 = 1 := cells_of inf51 rfl
theorem agg51 : aggT Try.prog 51 = some false := agg_of Try.underlying51 rfl
theorem isl51 : isSlice Try.prog 51 = true := isSlice_of Try.underlying51
theorem inf52 : Tables.info? Try.prog.toTables 52 = some Try.t52 := info_of Try.types_size (by decide) Try.type52
theorem info52 : (Tables.info? Try.prog.toTables 52).isSome = true := isSome_of inf52
theorem cells52 : Program.cellsOf Try.prog 52 = 1 := cells_of inf52 rfl
theorem agg52 : aggT Try.prog 52 = some true := agg_of Try.underlying52 rfl
theorem inf53 : Tables.info? Try.prog.toTables 53 = some Try.t53 := info_of Try.types_size (by decide) Try.type53
theorem info53 : (Tables.info? Try.prog.toTables 53).isSome = true := isSome_of inf53
theorem cells53 : Program.cellsOf Try.prog 53 = 1 := cells_of inf53 rfl
theorem agg53 : aggT Try.prog 53 = some true := agg_of Try.underlying53 rfl
theorem inf54 : Tables.info? Try.prog.toTables 54 = some Try.t54 := info_of Try.types_size (by decide) Try.type54
theorem info54 : (Tables.info? Try.prog.toTables 54).isSome = true := isSome_of inf54
theorem cells54 : Program.cellsOf Try.prog 54 = 4 := cells_of inf54 rfl
theorem agg54 : aggT Try.prog 54 = some true := agg_of Try.underlying54 rfl
theorem inf55 : Tables.info? Try.prog.toTables 55 = some Try.t55 := info_of Try.types_size (by decide) Try.type55
theorem info55 : (Tables.info? Try.prog.toTables 55).isSome = true := isSome_of inf55
theorem cells55 : Program.cellsOf Try.prog 55 = 4 := cells_of inf55 rfl
theorem agg55 : aggT Try.prog 55 = some true := agg_of Try.underlying55 rfl
theorem inf56 : Tables.info? Try.prog.toTables 56 = some Try.t56 := info_of Try.types_size (by decide) Try.type56
theorem info56 : (Tables.info? Try.prog.toTables 56).isSome = true := isSome_of inf56
theorem cells56 : Program.cellsOf Try.prog 56 = 1 := cells_of inf56 rfl
theorem agg56 : aggT Try.prog 56 = some false := agg_of Try.underlying56 rfl
theorem ism56 : isMap Try.prog 56 = true := isMap_of Try.underlying56
theorem inf57 : Tables.info? Try.prog.toTables 57 = some Try.t57 := info_of Try.types_size (by decide) Try.type57
theorem info57 : (Tables.info? Try.prog.toTables 57).isSome = true := isSome_of inf57
theorem cells57 : Program.cellsOf Try.prog 57 = 1 := cells_of inf57 rfl
theorem inf58 : Tables.info? Try.prog.toTables 58 = some Try.t58 := info_of Try.types_size (by decide) Try.type58
theorem info58 : (Tables.info? Try.prog.toTables 58).isSome = true := isSome_of inf58
theorem cells58 : Program.cellsOf Try.prog 58 = 1 := cells_of inf58 rfl
theorem agg58 : aggT Try.prog 58 = some false := agg_of Try.underlying58 rfl
theorem inf59 : Tables.info? Try.prog.toTables 59 = some Try.t59 := info_of Try.types_size (by decide) Try.type59
theorem info59 : (Tables.info? Try.prog.toTables 59).isSome = true := isSome_of inf59
theorem cells59 : Program.cellsOf Try.prog 59 = 1 := cells_of inf59 rfl
theorem inf60 : Tables.info? Try.prog.toTables 60 = some Try.t60 := info_of Try.types_size (by decide) Try.type60
theorem info60 : (Tables.info? Try.prog.toTables 60).isSome = true := isSome_of inf60
theorem cells60 : Program.cellsOf Try.prog 60 = 1 := cells_of inf60 rfl
theorem agg60 : aggT Try.prog 60 = some false := agg_of Try.underlying60 rfl
theorem inf61 : Tables.info? Try.prog.toTables 61 = some Try.t61 := info_of Try.types_size (by decide) Try.type61
theorem info61 : (Tables.info? Try.prog.toTables 61).isSome = true := isSome_of inf61
theorem cells61 : Program.cellsOf Try.prog 61 = 3 := cells_of inf61 rfl
theorem agg61 : aggT Try.prog 61 = some true := agg_of Try.underlying61 rfl
theorem inf62 : Tables.info? Try.prog.toTables 62 = some Try.t62 := info_of Try.types_size (by decide) Try.type62
theorem info62 : (Tables.info? Try.prog.toTables 62).isSome = true := isSome_of inf62
theorem cells62 : Program.cellsOf Try.prog 62 = 3 := cells_of inf62 rfl
theorem agg62 : aggT Try.prog 62 = some true := agg_of Try.underlying62 rfl
theorem inf63 : Tables.info? Try.prog.toTables 63 = some Try.t63 := info_of Try.types_size (by decide) Try.type63
theorem info63 : (Tables.info? Try.prog.toTables 63).isSome = true := isSome_of inf63
theorem cells63 : Program.cellsOf Try.prog 63 = 1 := cells_of inf63 rfl
theorem inf64 : Tables.info? Try.prog.toTables 64 = some Try.t64 := info_of Try.types_size (by decide) Try.type64
theorem info64 : (Tables.info? Try.prog.toTables 64).isSome = true := isSome_of inf64
theorem cells64 : Program.cellsOf Try.prog 64 = 1 := cells_of inf64 rfl
theorem agg64 : aggT Try.prog 64 = some false := agg_of Try.underlying64 rfl
theorem inf65 : Tables.info? Try.prog.toTables 65 = some Try.t65 := info_of Try.types_size (by decide) Try.type65
theorem info65 : (Tables.info? Try.prog.toTables 65).isSome = true := isSome_of inf65
theorem cells65 : Program.cellsOf Try.prog 65 = 1 := cells_of inf65 rfl
theorem agg65 : aggT Try.prog 65 = some false := agg_of Try.underlying65 rfl
theorem inf66 : Tables.info? Try.prog.toTables 66 = some Try.t66 := info_of Try.types_size (by decide) Try.type66
theorem info66 : (Tables.info? Try.prog.toTables 66).isSome = true := isSome_of inf66
theorem cells66 : Program.cellsOf Try.prog 66 = 1 := cells_of inf66 rfl
theorem agg66 : aggT Try.prog 66 = some false := agg_of Try.underlying66 rfl
theorem inf67 : Tables.info? Try.prog.toTables 67 = some Try.t67 := info_of Try.types_size (by decide) Try.type67
theorem info67 : (Tables.info? Try.prog.toTables 67).isSome = true := isSome_of inf67
theorem cells67 : Program.cellsOf Try.prog 67 = 1 := cells_of inf67 rfl
theorem agg67 : aggT Try.prog 67 = some false := agg_of Try.underlying67 rfl
theorem inf68 : Tables.info? Try.prog.toTables 68 = some Try.t68 := info_of Try.types_size (by decide) Try.type68
theorem info68 : (Tables.info? Try.prog.toTables 68).isSome = true := isSome_of inf68
theorem cells68 : Program.cellsOf Try.prog 68 = 1 := cells_of inf68 rfl
theorem agg68 : aggT Try.prog 68 = some false := agg_of Try.underlying68 rfl
theorem inf69 : Tables.info? Try.prog.toTables 69 = some Try.t69 := info_of Try.types_size (by decide) Try.type69
theorem info69 : (Tables.info? Try.prog.toTables 69).isSome = true := isSome_of inf69
theorem cells69 : Program.cellsOf Try.prog 69 = 1 := cells_of inf69 rfl
theorem agg69 : aggT Try.prog 69 = some false := agg_of Try.underlying69 rfl
theorem inf70 : Tables.info? Try.prog.toTables 70 = some Try.t70 := info_of Try.types_size (by decide) Try.type70
theorem info70 : (Tables.info? Try.prog.toTables 70).isSome = true := isSome_of inf70
theorem cells70 : Program.cellsOf Try.prog 70 = 1 := cells_of inf70 rfl
theorem agg70 : aggT Try.prog 70 = some false := agg_of Try.underlying70 rfl
theorem isl70 : isSlice Try.prog 70 = true := isSlice_of Try.underlying70
theorem inf71 : Tables.info? Try.prog.toTables 71 = some Try.t71 := info_of Try.types_size (by decide) Try.type71
theorem info71 : (Tables.info? Try.prog.toTables 71).isSome = true := isSome_of inf71
theorem cells71 : Program.cellsOf Try.prog 71 = 1 := cells_of inf71 rfl
theorem agg71 : aggT Try.prog 71 = some false := agg_of Try.underlying71 rfl
theorem isl71 : isSlice Try.prog 71 = true := isSlice_of Try.underlying71
theorem inf72 : Tables.info? Try.prog.toTables 72 = some Try.t72 := info_of Try.types_size (by decide) Try.type72
theorem info72 : (Tables.info? Try.prog.toTables 72).isSome = true := isSome_of inf72
theorem cells72 : Program.cellsOf Try.prog 72 = 5 := cells_of inf72 rfl
theorem agg72 : aggT Try.prog 72 = some true := agg_of Try.underlying72 rfl
theorem inf73 : Tables.info? Try.prog.toTables 73 = some Try.t73 := info_of Try.types_size (by decide) Try.type73
theorem info73 : (Tables.info? Try.prog.toTables 73).isSome = true := isSome_of inf73
theorem cells73 : Program.cellsOf Try.prog 73 = 5 := cells_of inf73 rfl
theorem agg73 : aggT Try.prog 73 = some true := agg_of Try.underlying73 rfl
theorem inf74 : Tables.info? Try.prog.toTables 74 = some Try.t74 := info_of Try.types_size (by decide) Try.type74
theorem info74 : (Tables.info? Try.prog.toTables 74).isSome = true := isSome_of inf74
theorem cells74 : Program.cellsOf Try.prog 74 = 1 := cells_of inf74 rfl
theorem agg74 : aggT Try.prog 74 = some false := agg_of Try.underlying74 rfl
theorem inf75 : Tables.info? Try.prog.toTables 75 = some Try.t75 := info_of Try.types_size (by decide) Try.type75
theorem info75 : (Tables.info? Try.prog.toTables 75).isSome = true := isSome_of inf75
theorem cells75 : Program.cellsOf Try.prog 75 = 1 := cells_of inf75 rfl
theorem agg75 : aggT Try.prog 75 = some false := agg_of Try.underlying75 rfl
theorem inf76 : Tables.info? Try.prog.toTables 76 = some Try.t76 := info_of Try.types_size (by decide) Try.type76
theorem info76 : (Tables.info? Try.prog.toTables 76).isSome = true := isSome_of inf76
theorem cells76 : Program.cellsOf Try.prog 76 = 1 := cells_of inf76 rfl
theorem agg76 : aggT Try.prog 76 = some false := agg_of Try.underlying76 rfl
theorem isp76 : isPtr Try.prog 76 = true := isPtr_of Try.underlying76
theorem inf77 : Tables.info? Try.prog.toTables 77 = some Try.t77 := info_of Try.types_size (by decide) Try.type77
theorem info77 : (Tables.info? Try.prog.toTables 77).isSome = true := isSome_of inf77
theorem cells77 : Program.cellsOf Try.prog 77 = 1 := cells_of inf77 rfl
theorem agg77 : aggT Try.prog 77 = some false := agg_of Try.underlying77 rfl
theorem inf78 : Tables.info? Try.prog.toTables 78 = some Try.t78 := info_of Try.types_size (by decide) Try.type78
theorem info78 : (Tables.info? Try.prog.toTables 78).isSome = true := isSome_of inf78
theorem cells78 : Program.cellsOf Try.prog 78 = 1 := cells_of inf78 rfl
theorem agg78 : aggT Try.prog 78 = some false := agg_of Try.underlying78 rfl
theorem inf79 : Tables.info? Try.prog.toTables 79 = some Try.t79 := info_of Try.types_size (by decide) Try.type79
theorem info79 : (Tables.info? Try.prog.toTables 79).isSome = true := isSome_of inf79
theorem cells79 : Program.cellsOf Try.prog 79 = 1 := cells_of inf79 rfl
theorem agg79 : aggT Try.prog 79 = some false := agg_of Try.underlying79 rfl
theorem inf80 : Tables.info? Try.prog.toTables 80 = some Try.t80 := info_of Try.types_size (by decide) Try.type80
theorem info80 : (Tables.info? Try.prog.toTables 80).isSome = true := isSome_of inf80
theorem cells80 : Program.cellsOf Try.prog 80 = 1 := cells_of inf80 rfl
theorem agg80 : aggT Try.prog 80 = some false := agg_of Try.underlying80 rfl
theorem isp80 : isPtr Try.prog 80 = true := isPtr_of Try.underlying80
theorem inf81 : Tables.info? Try.prog.toTables 81 = some Try.t81 := info_of Try.types_size (by decide) Try.type81
theorem info81 : (Tables.info? Try.prog.toTables 81).isSome = true := isSome_of inf81
theorem cells81 : Program.cellsOf Try.prog 81 = 1 := cells_of inf81 rfl
theorem agg81 : aggT Try.prog 81 = some false := agg_of Try.underlying81 rfl
theorem inf82 : Tables.info? Try.prog.toTables 82 = some Try.t82 := info_of Try.types_size (by decide) Try.type82
theorem info82 : (Tables.info? Try.prog.toTables 82).isSome = true := isSome_of inf82
theorem cells82 : Program.cellsOf Try.prog 82 = 1 := cells_of inf82 rfl
theorem agg82 : aggT Try.prog 82 = some false := agg_of Try.underlying82 rfl
theorem inf83 : Tables.info? Try.prog.toTables 83 = some Try.t83 := info_of Try.types_size (by decide) Try.type83
theorem info83 : (Tables.info? Try.prog.toTables 83).isSome = true := isSome_of inf83
theorem cells83 : Program.cellsOf Try.prog 83 = 1 := cells_of inf83 rfl
theorem agg83 : aggT Try.prog 83 = some false := agg_of Try.underlying83 rfl
theorem inf84 : Tables.info? Try.prog.toTables 84 = some Try.t84 := info_of Try.types_size (by decide) Try.type84
theorem info84 : (Tables.info? Try.prog.toTables 84).isSome = true := isSome_of inf84
theorem cells84 : Program.cellsOf Try.prog 84 = 4 := cells_of inf84 rfl
theorem agg84 : aggT Try.prog 84 = some true := agg_of Try.underlying84 rfl
theorem inf85 : Tables.info? Try.prog.toTables 85 = some Try.t85 := info_of Try.types_size (by decide) Try.type85
theorem info85 : (Tables.info? Try.prog.toTables 85).isSome = true := isSome_of inf85
theorem cells85 : Program.cellsOf Try.prog 85 = 4 := cells_of inf85 rfl
theorem agg85 : aggT Try.prog 85 = some true := agg_of Try.underlying85 rfl
theorem inf86 : Tables.info? Try.prog.toTables 86 = some Try.t86 := info_of Try.types_size (by decide) Try.type86
theorem info86 : (Tables.info? Try.prog.toTables 86).isSome = true := isSome_of inf86
theorem cells86 : Program.cellsOf Try.prog 86 = 3 := cells_of inf86 rfl
theorem agg86 : aggT Try.prog 86 = some true := agg_of Try.underlying86 rfl
theorem inf87 : Tables.info? Try.prog.toTables 87 = some Try.t87 := info_of Try.types_size (by decide) Try.type87
theorem info87 : (Tables.info? Try.prog.toTables 87).isSome = true := isSome_of inf87
theorem cells87 : Program.cellsOf Try.prog 87 = 3 := cells_of inf87 rfl
theorem agg87 : aggT Try.prog 87 = some true := agg_of Try.underlying87 rfl
theorem inf88 : Tables.info? Try.prog.toTables 88 = some Try.t88 := info_of Try.types_size (by decide) Try.type88
theorem info88 : (Tables.info? Try.prog.toTables 88).isSome = true := isSome_of inf88
theorem cells88 : Program.cellsOf Try.prog 88 = 1 := cells_of inf88 rfl
theorem agg88 : aggT Try.prog 88 = some false := agg_of Try.underlying88 rfl
theorem inf89 : Tables.info? Try.prog.toTables 89 = some Try.t89 := info_of Try.types_size (by decide) Try.type89
theorem info89 : (Tables.info? Try.prog.toTables 89).isSome = true := isSome_of inf89
theorem cells89 : Program.cellsOf Try.prog 89 = 1 := cells_of inf89 rfl
theorem agg89 : aggT Try.prog 89 = some false := agg_of Try.underlying89 rfl
theorem inf90 : Tables.info? Try.prog.toTables 90 = some Try.t90 := info_of Try.types_size (by decide) Try.type90
theorem info90 : (Tables.info? Try.prog.toTables 90).isSome = true := isSome_of inf90
theorem cells90 : Program.cellsOf Try.prog 90 = 1 := cells_of inf90 rfl
theorem agg90 : aggT Try.prog 90 = some false := agg_of Try.underlying90 rfl
theorem inf91 : Tables.info? Try.prog.toTables 91 = some Try.t91 := info_of Try.types_size (by decide) Try.type91
theorem info91 : (Tables.info? Try.prog.toTables 91).isSome = true := isSome_of inf91
theorem cells91 : Program.cellsOf Try.prog 91 = 4 := cells_of inf91 rfl
theorem agg91 : aggT Try.prog 91 = some true := agg_of Try.underlying91 rfl
theorem inf92 : Tables.info? Try.prog.toTables 92 = some Try.t92 := info_of Try.types_size (by decide) Try.type92
theorem info92 : (Tables.info? Try.prog.toTables 92).isSome = true := isSome_of inf92
theorem cells92 : Program.cellsOf Try.prog 92 = 4 := cells_of inf92 rfl
theorem agg92 : aggT Try.prog 92 = some true := agg_of Try.underlying92 rfl
theorem inf93 : Tables.info? Try.prog.toTables 93 = some Try.t93 := info_of Try.types_size (by decide) Try.type93
theorem info93 : (Tables.info? Try.prog.toTables 93).isSome = true := isSome_of inf93
theorem cells93 : Program.cellsOf Try.prog 93 = 0 := cells_of inf93 rfl
theorem agg93 : aggT Try.prog 93 = some true := agg_of Try.underlying93 rfl
theorem inf94 : Tables.info? Try.prog.toTables 94 = some Try.t94 := info_of Try.types_size (by decide) Try.type94
theorem info94 : (Tables.info? Try.prog.toTables 94).isSome = true := isSome_of inf94
theorem cells94 : Program.cellsOf Try.prog 94 = 0 := cells_of inf94 rfl
theorem agg94 : aggT Try.prog 94 = some true := agg_of Try.underlying94 rfl
theorem inf95 : Tables.info? Try.prog.toTables 95 = some Try.t95 := info_of Try.types_size (by decide) Try.type95
theorem info95 : (Tables.info? Try.prog.toTables 95).isSome = true := isSome_of inf95
theorem cells95 : Program.cellsOf Try.prog 95 = 0 := cells_of inf95 rfl
theorem agg95 : aggT Try.prog 95 = some true := agg_of Try.underlying95 rfl
theorem inf96 : Tables.info? Try.prog.toTables 96 = some Try.t96 := info_of Try.types_size (by decide) Try.type96
theorem info96 : (Tables.info? Try.prog.toTables 96).isSome = true := isSome_of inf96
theorem cells96 : Program.cellsOf Try.prog 96 = 1 := cells_of inf96 rfl
theorem agg96 : aggT Try.prog 96 = some false := agg_of Try.underlying96 rfl
theorem inf97 : Tables.info? Try.prog.toTables 97 = some Try.t97 := info_of Try.types_size (by decide) Try.type97
theorem info97 : (Tables.info? Try.prog.toTables 97).isSome = true := isSome_of inf97
theorem cells97 : Program.cellsOf Try.prog 97 = 1 := cells_of inf97 rfl
theorem agg97 : aggT Try.prog 97 = some false := agg_of Try.underlying97 rfl
theorem inf98 : Tables.info? Try.prog.toTables 98 = some Try.t98 := info_of Try.types_size (by decide) Try.type98
theorem info98 : (Tables.info? Try.prog.toTables 98).isSome = true := isSome_of inf98
theorem cells98 : Program.cellsOf Try.prog 98 = 1 := cells_of inf98 rfl
theorem agg98 : aggT Try.prog 98 = some false := agg_of Try.underlying98 rfl
theorem inf99 : Tables.info? Try.prog.toTables 99 = some Try.t99 := info_of Try.types_size (by decide) Try.type99
theorem info99 : (Tables.info? Try.prog.toTables 99).isSome = true := isSome_of inf99
theorem cells99 : Program.cellsOf Try.prog 99 = 1 := cells_of inf99 rfl
theorem agg99 : aggT Try.prog 99 = some false := agg_of Try.underlying99 rfl
theorem inf100 : Tables.info? Try.prog.toTables 100 = some Try.t100 := info_of Try.types_size (by decide) Try.type100
theorem info100 : (Tables.info? Try.prog.toTables 100).isSome = true := isSome_of inf100
theorem cells100 : Program.cellsOf Try.prog 100 = 1 := cells_of inf100 rfl
theorem agg100 : aggT Try.prog 100 = some false := agg_of Try.underlying100 rfl
theorem isp100 : isPtr Try.prog 100 = true := isPtr_of Try.underlying100
theorem inf101 : Tables.info? Try.prog.toTables 101 = some Try.t101 := info_of Try.types_size (by decide) Try.type101
theorem info101 : (Tables.info? Try.prog.toTables 101).isSome = true := isSome_of inf101
theorem cells101 : Program.cellsOf Try.prog 101 = 1 := cells_of inf101 rfl
theorem agg101 : aggT Try.prog 101 = some false := agg_of Try.underlying101 rfl
theorem inf102 : Tables.info? Try.prog.toTables 102 = some Try.t102 := info_of Try.types_size (by decide) Try.type102
theorem info102 : (Tables.info? Try.prog.toTables 102).isSome = true := isSome_of inf102
theorem cells102 : Program.cellsOf Try.prog 102 = 1 := cells_of inf102 rfl
theorem agg102 : aggT Try.prog 102 = some false := agg_of Try.underlying102 rfl
theorem inf103 : Tables.info? Try.prog.toTables 103 = some Try.t103 := info_of Try.types_size (by decide) Try.type103
theorem info103 : (Tables.info? Try.prog.toTables 103).isSome = true := isSome_of inf103
theorem cells103 : Program.cellsOf Try.prog 103 = 11 := cells_of inf103 rfl
theorem agg103 : aggT Try.prog 103 = some true := agg_of Try.underlying103 rfl
theorem inf104 : Tables.info? Try.prog.toTables 104 = some Try.t104 := info_of Try.types_size (by decide) Try.type104
theorem info104 : (Tables.info? Try.prog.toTables 104).isSome = true := isSome_of inf104
theorem cells104 : Program.cellsOf Try.prog 104 = 11 := cells_of inf104 rfl
theorem agg104 : aggT Try.prog 104 = some true := agg_of Try.underlying104 rfl
theorem inf105 : Tables.info? Try.prog.toTables 105 = some Try.t105 := info_of Try.types_size (by decide) Try.type105
theorem info105 : (Tables.info? Try.prog.toTables 105).isSome = true := isSome_of inf105
theorem cells105 : Program.cellsOf Try.prog 105 = 1 := cells_of inf105 rfl
theorem agg105 : aggT Try.prog 105 = some false := agg_of Try.underlying105 rfl
theorem off7_0 : fieldOff Try.prog 7 0 = some 0 := fieldOff_of Try.underlying7 rfl inf2 (by decide) rfl
theorem off7_1 : fieldOff Try.prog 7 1 = some 1 := fieldOff_of Try.underlying7 rfl inf3 (by decide) rfl
theorem off7_2 : fieldOff Try.prog 7 2 = some 2 := fieldOff_of Try.underlying7 rfl inf4 (by decide) rfl
theorem off7_3 : fieldOff Try.prog 7 3 = some 3 := fieldOff_of Try.underlying7 rfl inf6 (by decide) rfl
theorem off8_0 : fieldOff Try.prog 8 0 = some 0 := fieldOff_of Try.underlying8 rfl inf2 (by decide) rfl
theorem off8_1 : fieldOff Try.prog 8 1 = some 1 := fieldOff_of Try.underlying8 rfl inf3 (by decide) rfl
theorem off8_2 : fieldOff Try.prog 8 2 = some 2 := fieldOff_of Try.underlying8 rfl inf4 (by decide) rfl
theorem off8_3 : fieldOff Try.prog 8 3 = some 3 := fieldOff_of Try.underlying8 rfl inf6 (by decide) rfl
theorem off13_0 : fieldOff Try.prog 13 0 = some 0 := fieldOff_of Try.underlying13 rfl inf9 (by decide) rfl
theorem off13_1 : fieldOff Try.prog 13 1 = some 1 := fieldOff_of Try.underlying13 rfl inf12 (by decide) rfl
theorem off14_0 : fieldOff Try.prog 14 0 = some 0 := fieldOff_of Try.underlying14 rfl inf9 (by decide) rfl
theorem off14_1 : fieldOff Try.prog 14 1 = some 1 := fieldOff_of Try.underlying14 rfl inf12 (by decide) rfl
theorem off18_0 : fieldOff Try.prog 18 0 = some 0 := fieldOff_of Try.underlying18 rfl inf17 (by decide) rfl
theorem off19_0 : fieldOff Try.prog 19 0 = some 0 := fieldOff_of Try.underlying19 rfl inf17 (by decide) rfl
theorem sli22 : sliceInfo Try.prog 22 = some (Try.t38, 38) := sliceInfo_of Try.underlying22 inf38
theorem b1_22 : build1OK Try.prog 22 = true := build1OK_of sli22 rfl
theorem es22 : elemSize Try.prog 22 = 4 := elemSize_of sli22 rfl
theorem sli32 : sliceInfo Try.prog 32 = some (Try.t3, 3) := sliceInfo_of Try.underlying32 inf3
theorem b1_32 : build1OK Try.prog 32 = true := build1OK_of sli32 rfl
theorem es32 : elemSize Try.prog 32 = 1 := elemSize_of sli32 rfl
theorem off37_0 : fieldOff Try.prog 37 0 = some 0 := fieldOff_of Try.underlying37 rfl inf3 (by decide) rfl
theorem off37_1 : fieldOff Try.prog 37 1 = some 1 := fieldOff_of Try.underlying37 rfl inf9 (by decide) rfl
theorem off37_2 : fieldOff Try.prog 37 2 = some 2 := fieldOff_of Try.underlying37 rfl inf3 (by decide) rfl
theorem off37_3 : fieldOff Try.prog 37 3 = some 3 := fieldOff_of Try.underlying37 rfl inf4 (by decide) rfl
theorem off38_0 : fieldOff Try.prog 38 0 = some 0 := fieldOff_of Try.underlying38 rfl inf3 (by decide) rfl
theorem off38_1 : fieldOff Try.prog 38 1 = some 1 := fieldOff_of Try.underlying38 rfl inf9 (by decide) rfl
theorem off38_2 : fieldOff Try.prog 38 2 = some 2 := fieldOff_of Try.underlying38 rfl inf3 (by decide) rfl
theorem off38_3 : fieldOff Try.prog 38 3 = some 3 := fieldOff_of Try.underlying38 rfl inf4 (by decide) rfl
theorem sli48 : sliceInfo Try.prog 48 = some (Try.t56, 56) := sliceInfo_of Try.underlying48 inf56
theorem b1_48 : build1OK Try.prog 48 = true := build1OK_of sli48 rfl
theorem es48 : elemSize Try.prog 48 = 1 := elemSize_of sli48 rfl
theorem off49_0 : fieldOff Try.prog 49 0 = some 0 := fieldOff_of Try.underlying49 rfl inf48 (by decide) rfl
theorem off50_0 : fieldOff Try.prog 50 0 = some 0 := fieldOff_of Try.underlying50 rfl inf48 (by decide) rfl
theorem sli51 : sliceInfo Try.prog 51 = some (Try.t62, 62) := sliceInfo_of Try.underlying51 inf62
theorem b1_51 : build1OK Try.prog 51 = true := build1OK_of sli51 rfl
theorem es51 : elemSize Try.prog 51 = 3 := elemSize_of sli51 rfl
theorem off52_0 : fieldOff Try.prog 52 0 = some 0 := fieldOff_of Try.underlying52 rfl inf51 (by decide) rfl
theorem off53_0 : fieldOff Try.prog 53 0 = some 0 := fieldOff_of Try.underlying53 rfl inf51 (by decide) rfl
theorem off54_0 : fieldOff Try.prog 54 0 = some 0 := fieldOff_of Try.underlying54 rfl inf50 (by decide) rfl
theorem off54_1 : fieldOff Try.prog 54 1 = some 1 := fieldOff_of Try.underlying54 rfl inf53 (by decide) rfl
theorem off54_2 : fieldOff Try.prog 54 2 = some 2 := fieldOff_of Try.underlying54 rfl inf32 (by decide) rfl
theorem off54_3 : fieldOff Try.prog 54 3 = some 3 := fieldOff_of Try.underlying54 rfl inf3 (by decide) rfl
theorem off55_0 : fieldOff Try.prog 55 0 = some 0 := fieldOff_of Try.underlying55 rfl inf50 (by decide) rfl
theorem off55_1 : fieldOff Try.prog 55 1 = some 1 := fieldOff_of Try.underlying55 rfl inf53 (by decide) rfl
theorem off55_2 : fieldOff Try.prog 55 2 = some 2 := fieldOff_of Try.underlying55 rfl inf32 (by decide) rfl
theorem off55_3 : fieldOff Try.prog 55 3 = some 3 := fieldOff_of Try.underlying55 rfl inf3 (by decide) rfl
theorem off61_0 : fieldOff Try.prog 61 0 = some 0 := fieldOff_of Try.underlying61 rfl inf9 (by decide) rfl
theorem off61_1 : fieldOff Try.prog 61 1 = some 1 := fieldOff_of Try.underlying61 rfl inf4 (by decide) rfl
theorem off61_2 : fieldOff Try.prog 61 2 = some 2 := fieldOff_of Try.underlying61 rfl inf3 (by decide) rfl
theorem off62_0 : fieldOff Try.prog 62 0 = some 0 := fieldOff_of Try.underlying62 rfl inf9 (by decide) rfl
theorem off62_1 : fieldOff Try.prog 62 1 = some 1 := fieldOff_of Try.underlying62 rfl inf4 (by decide) rfl
theorem off62_2 : fieldOff Try.prog 62 2 = some 2 := fieldOff_of Try.underlying62 rfl inf3 (by decide) rfl
theorem sli70 : sliceInfo Try.prog 70 = some (Try.t85, 85) := sliceInfo_of Try.underlying70 inf85
theorem b1_70 : build1OK Try.prog 70 = true := build1OK_of sli70 rfl
theorem es70 : elemSize Try.prog 70 = 4 := elemSize_of sli70 rfl
theorem sli71 : sliceInfo Try.prog 71 = some (Try.t87, 87) := sliceInfo_of Try.underlying71 inf87
theorem b1_71 : build1OK Try.prog 71 = true := build1OK_of sli71 rfl
theorem es71 : elemSize Try.prog 71 = 3 := elemSize_of sli71 rfl
theorem off72_0 : fieldOff Try.prog 72 0 = some 0 := fieldOff_of Try.underlying72 rfl inf3 (by decide) rfl
theorem off72_1 : fieldOff Try.prog 72 1 = some 1 := fieldOff_of Try.underlying72 rfl inf70 (by decide) rfl
theorem off72_2 : fieldOff Try.prog 72 2 = some 2 := fieldOff_of Try.underlying72 rfl inf32 (by decide) rfl
theorem off72_3 : fieldOff Try.prog 72 3 = some 3 := fieldOff_of Try.underlying72 rfl inf71 (by decide) rfl
theorem off72_4 : fieldOff Try.prog 72 4 = some 4 := fieldOff_of Try.underlying72 rfl inf3 (by decide) rfl
theorem off73_0 : fieldOff Try.prog 73 0 = some 0 := fieldOff_of Try.underlying73 rfl inf3 (by decide) rfl
theorem off73_1 : fieldOff Try.prog 73 1 = some 1 := fieldOff_of Try.underlying73 rfl inf70 (by decide) rfl
theorem off73_2 : fieldOff Try.prog 73 2 = some 2 := fieldOff_of Try.underlying73 rfl inf32 (by decide) rfl
theorem off73_3 : fieldOff Try.prog 73 3 = some 3 := fieldOff_of Try.underlying73 rfl inf71 (by decide) rfl
theorem off73_4 : fieldOff Try.prog 73 4 = some 4 := fieldOff_of Try.underlying73 rfl inf3 (by decide) rfl
theorem off84_0 : fieldOff Try.prog 84 0 = some 0 := fieldOff_of Try.underlying84 rfl inf9 (by decide) rfl
theorem off84_1 : fieldOff Try.prog 84 1 = some 1 := fieldOff_of Try.underlying84 rfl inf3 (by decide) rfl
theorem off84_2 : fieldOff Try.prog 84 2 = some 2 := fieldOff_of Try.underlying84 rfl inf3 (by decide) rfl
theorem off84_3 : fieldOff Try.prog 84 3 = some 3 := fieldOff_of Try.underlying84 rfl inf3 (by decide) rfl
theorem off85_0 : fieldOff Try.prog 85 0 = some 0 := fieldOff_of Try.underlying85 rfl inf9 (by decide) rfl
theorem off85_1 : fieldOff Try.prog 85 1 = some 1 := fieldOff_of Try.underlying85 rfl inf3 (by decide) rfl
theorem off85_2 : fieldOff Try.prog 85 2 = some 2 := fieldOff_of Try.underlying85 rfl inf3 (by decide) rfl
theorem off85_3 : fieldOff Try.prog 85 3 = some 3 := fieldOff_of Try.underlying85 rfl inf3 (by decide) rfl
theorem off86_0 : fieldOff Try.prog 86 0 = some 0 := fieldOff_of Try.underlying86 rfl inf9 (by decide) rfl
theorem off86_1 : fieldOff Try.prog 86 1 = some 1 := fieldOff_of Try.underlying86 rfl inf4 (by decide) rfl
theorem off86_2 : fieldOff Try.prog 86 2 = some 2 := fieldOff_of Try.underlying86 rfl inf3 (by decide) rfl
theorem off87_0 : fieldOff Try.prog 87 0 = some 0 := fieldOff_of Try.underlying87 rfl inf9 (by decide) rfl
theorem off87_1 : fieldOff Try.prog 87 1 = some 1 := fieldOff_of Try.underlying87 rfl inf4 (by decide) rfl
theorem off87_2 : fieldOff Try.prog 87 2 = some 2 := fieldOff_of Try.underlying87 rfl inf3 (by decide) rfl
theorem off91_0 : fieldOff Try.prog 91 0 = some 0 := fieldOff_of Try.underlying91 rfl inf17 (by decide) rfl
theorem off91_1 : fieldOff Try.prog 91 1 = some 1 := fieldOff_of Try.underlying91 rfl inf17 (by decide) rfl
theorem off91_2 : fieldOff Try.prog 91 2 = some 2 := fieldOff_of Try.underlying91 rfl inf17 (by decide) rfl
theorem off91_3 : fieldOff Try.prog 91 3 = some 3 := fieldOff_of Try.underlying91 rfl inf9 (by decide) rfl
theorem off92_0 : fieldOff Try.prog 92 0 = some 0 := fieldOff_of Try.underlying92 rfl inf17 (by decide) rfl
theorem off92_1 : fieldOff Try.prog 92 1 = some 1 := fieldOff_of Try.underlying92 rfl inf17 (by decide) rfl
theorem off92_2 : fieldOff Try.prog 92 2 = some 2 := fieldOff_of Try.underlying92 rfl inf17 (by decide) rfl
theorem off92_3 : fieldOff Try.prog 92 3 = some 3 := fieldOff_of Try.underlying92 rfl inf9 (by decide) rfl
theorem off103_0 : fieldOff Try.prog 103 0 = some 0 := fieldOff_of Try.underlying103 rfl inf12 (by decide) rfl
theorem off103_1 : fieldOff Try.prog 103 1 = some 1 := fieldOff_of Try.underlying103 rfl inf12 (by decide) rfl
theorem off103_2 : fieldOff Try.prog 103 2 = some 2 := fieldOff_of Try.underlying103 rfl inf96 (by decide) rfl
theorem off103_3 : fieldOff Try.prog 103 3 = some 3 := fieldOff_of Try.underlying103 rfl inf97 (by decide) rfl
theorem off103_4 : fieldOff Try.prog 103 4 = some 4 := fieldOff_of Try.underlying103 rfl inf5 (by decide) rfl
theorem off103_5 : fieldOff Try.prog 103 5 = some 5 := fieldOff_of Try.underlying103 rfl inf5 (by decide) rfl
theorem off103_6 : fieldOff Try.prog 103 6 = some 6 := fieldOff_of Try.underlying103 rfl inf98 (by decide) rfl
theorem off103_7 : fieldOff Try.prog 103 7 = some 7 := fieldOff_of Try.underlying103 rfl inf99 (by decide) rfl
theorem off103_8 : fieldOff Try.prog 103 8 = some 8 := fieldOff_of Try.underlying103 rfl inf100 (by decide) rfl
theorem off103_9 : fieldOff Try.prog 103 9 = some 9 := fieldOff_of Try.underlying103 rfl inf101 (by decide) rfl
theorem off103_10 : fieldOff Try.prog 103 10 = some 10 := fieldOff_of Try.underlying103 rfl inf102 (by decide) rfl
theorem off104_0 : fieldOff Try.prog 104 0 = some 0 := fieldOff_of Try.underlying104 rfl inf12 (by decide) rfl
theorem off104_1 : fieldOff Try.prog 104 1 = some 1 := fieldOff_of Try.underlying104 rfl inf12 (by decide) rfl
theorem off104_2 : fieldOff Try.prog 104 2 = some 2 := fieldOff_of Try.underlying104 rfl inf96 (by decide) rfl
theorem off104_3 : fieldOff Try.prog 104 3 = some 3 := fieldOff_of Try.underlying104 rfl inf97 (by decide) rfl
theorem off104_4 : fieldOff Try.prog 104 4 = some 4 := fieldOff_of Try.underlying104 rfl inf5 (by decide) rfl
theorem off104_5 : fieldOff Try.prog 104 5 = some 5 := fieldOff_of Try.underlying104 rfl inf5 (by decide) rfl
theorem off104_6 : fieldOff Try.prog 104 6 = some 6 := fieldOff_of Try.underlying104 rfl inf98 (by decide) rfl
theorem off104_7 : fieldOff Try.prog 104 7 = some 7 := fieldOff_of Try.underlying104 rfl inf99 (by decide) rfl
theorem off104_8 : fieldOff Try.prog 104 8 = some 8 := fieldOff_of Try.underlying104 rfl inf100 (by decide) rfl
theorem off104_9 : fieldOff Try.prog 104 9 = some 9 := fieldOff_of Try.underlying104 rfl inf101 (by decide) rfl
theorem off104_10 : fieldOff Try.prog 104 10 = some 10 := fieldOff_of Try.underlying104 rfl inf102 (by decide) rfl
theorem en2 : enterB Try.prog 2 = true := enterB_of Try.func2 rfl
theorem en3 : enterB Try.prog 3 = true := enterB_of Try.func3 rfl
theorem en4 : enterB Try.prog 4 = true := enterB_of Try.func4 rfl
theorem en5 : enterB Try.prog 5 = true := enterB_of Try.func5 rfl
theorem en6 : enterB Try.prog 6 = true := enterB_of Try.func6 rfl
theorem en7 : enterB Try.prog 7 = true := enterB_of Try.func7 rfl
theorem en8 : enterB Try.prog 8 = true := enterB_of Try.func8 rfl
theorem en9 : enterB Try.prog 9 = true := enterB_of Try.func9 rfl
theorem en10 : enterB Try.prog 10 = true := enterB_of Try.func10 rfl
theorem en11 : enterB Try.prog 11 = true := enterB_of Try.func11 rfl
theorem en12 : enterB Try.prog 12 = true := enterB_of Try.func12 rfl
theorem en13 : enterB Try.prog 13 = true := enterB_of Try.func13 rfl
theorem en14 : enterB Try.prog 14 = true := enterB_of Try.func14 rfl
theorem en15 : enterB Try.prog 15 = true := enterB_of Try.func15 rfl
theorem en16 : enterB Try.prog 16 = true := enterB_of Try.func16 rfl
theorem en17 : enterB Try.prog 17 = true := enterB_of Try.func17 rfl
theorem en18 : enterB Try.prog 18 = true := enterB_of Try.func18 rfl
theorem en19 : enterB Try.prog 19 = true := enterB_of Try.func19 rfl
theorem en20 : enterB Try.prog 20 = true := enterB_of Try.func20 rfl
theorem en21 : enterB Try.prog 21 = true := enterB_of Try.func21 rfl
theorem en22 : enterB Try.prog 22 = true := enterB_of Try.func22 rfl
theorem en23 : enterB Try.prog 23 = true := enterB_of Try.func23 rfl
theorem en24 : enterB Try.prog 24 = true := enterB_of Try.func24 rfl
theorem en25 : enterB Try.prog 25 = true := enterB_of Try.func25 rfl
theorem en26 : enterB Try.prog 26 = true := enterB_of Try.func26 rfl
theorem en27 : enterB Try.prog 27 = true := enterB_of Try.func27 rfl
theorem en28 : enterB Try.prog 28 = true := enterB_of Try.func28 rfl
theorem en29 : enterB Try.prog 29 = true := enterB_of Try.func29 rfl
theorem en30 : enterB Try.prog 30 = true := enterB_of Try.func30 rfl
theorem en31 : enterB Try.prog 31 = true := enterB_of Try.func31 rfl
theorem en32 : enterB Try.prog 32 = true := enterB_of Try.func32 rfl
theorem en33 : enterB Try.prog 33 = true := enterB_of Try.func33 rfl
theorem en34 : enterB Try.prog 34 = true := enterB_of Try.func34 rfl
theorem en35 : enterB Try.prog 35 = true := enterB_of Try.func35 rfl
theorem en36 : enterB Try.prog 36 = true := enterB_of Try.func36 rfl
theorem en37 : enterB Try.prog 37 = true := enterB_of Try.func37 rfl
theorem en38 : enterB Try.prog 38 = true := enterB_of Try.func38 rfl
theorem en39 : enterB Try.prog 39 = true := enterB_of Try.func39 rfl
theorem en40 : enterB Try.prog 40 = true := enterB_of Try.func40 rfl
theorem en41 : enterB Try.prog 41 = true := enterB_of Try.func41 rfl
theorem en42 : enterB Try.prog 42 = true := enterB_of Try.func42 rfl
theorem en43 : enterB Try.prog 43 = true := enterB_of Try.func43 rfl
theorem en44 : enterB Try.prog 44 = true := enterB_of Try.func44 rfl
theorem en45 : enterB Try.prog 45 = true := enterB_of Try.func45 rfl
theorem en46 : enterB Try.prog 46 = true := enterB_of Try.func46 rfl
theorem en47 : enterB Try.prog 47 = true := enterB_of Try.func47 rfl
theorem en48 : enterB Try.prog 48 = true := enterB_of Try.func48 rfl

end B
end Go.Proofs.Ytnjoaffnfjlcaaa

namespace Go.Proofs.Ytnjoaffnfjlcaaa
open Go Go.Proofs B


theorem size_ne {K : Nat} : Try.prog.funcs.size + K ≠ 22 := by
  have : Try.prog.funcs.size = 66 := by kernel_rfl
  omega


theorem bw47 {ext : CallT} (hx : ∀ f args H, f ≠ 22 → ext f args H = none) {F : Option (AEnd × AHeap) → Prop} {H : AHeap} {K c n : Nat} {bl : Value} {cells : List Value} (hn : n < 1000000) {val : Nat → Value} (p : Nat → Bool) (J : AHeap → Prop) (Good : Nat → AHeap → Prop)
    (hJ : ∀ H, J H → H.get c = some (.box [bl] 48) ∧ Own H 56 1 bl n cells ∧ (∃ r0, H.get K = some (.loop r0) ∧ r0.params.size = 2) ∧ ∀ i, i < n → H.loadV Try.prog 56 (addA (baseOf bl) (i * 1)) = some (val i))
    (hr : ∀ (i : Nat) (H : AHeap), i < n → J H → (p i = false ∧ ∃ H', theCall Try.prog ext (Try.prog.funcs.size + K) [.int .i64 i, val i] H = some (.ret (.bool true), H') ∧ J H') ∨ (p i = true ∧ ∃ H', theCall Try.prog ext (Try.prog.funcs.size + K) [.int .i64 i, val i] H = some (.ret (.bool false), H') ∧ Good i H'))
    (h0 : J H) (hF : ∀ H', (match lastI p n with | some i => Good i H' | none => J H') → F (some (.ret (.tuple #[]), H'))) :
    F (theCall Try.prog ext 47 [.func (.yield K) #[] #[], .pointer (some ⟨c, 0, none⟩)] H) := by
  suffices hs : ∃ H', theCall Try.prog ext 47 [.func (.yield K) #[] #[], .pointer (some ⟨c, 0, none⟩)] H = some (.ret (.tuple #[]), H') ∧ (match lastI p n with | some i => Good i H' | none => J H') by
    obtain ⟨H', h1, h2⟩ := hs
    rw [h1]; exact hF H' h2
  obtain ⟨hc, ho, ⟨r0, hK, hp⟩, hval⟩ := hJ H h0
  have c3 := fun H2 => ho.lenS isl48 H2
  refine theCall_goal (F := fun z => ∃ H', z = some (.ret (.tuple #[]), H') ∧ (match lastI p n with | some i => Good i H' | none => J H')) (hx _ _ _ (by decide)) Try.func47 (rs := []) rfl rfl rfl (by simp) fun tm hl hi => ?_
  replace hl : tm.length = 19 := hl
  have i0 := hi 0
  have i1 := hi 1
  simp only [List.getD_cons_zero, List.getD_cons_succ] at i0 i1
  simp (config := { decide := true }) only [theCode_seq, theCode_list, theCode_block, evalList_plain, evalList_nil, nd_assign, nd_load, nd_binOp, nd_call, ok_tmp, ok_const, cl_int, opA_assign, opA_load, opA_bin, opA_len, contA_val, putT_some, aev_tmp, aev_const, rd_same, List.length_set, valA_some, thenA_normal, loadS_ptr, bin_sub, List.getElem?_cons_zero, Option.isSome_some, Nat.reduceLT, hl, i1, agg48, loadV_flat, cell_eq, hc, cellO_box, List.getElem?_cons_zero, c3]
  refine loop_goal (F := fun z => ∃ H', leaveR Try.prog [] (inBlockA 0 z) = some (.ret (.tuple #[]), H') ∧ (match lastI p n with | some i => Good i H' | none => J H'))
    (fun k s => ∃ tm H, s = ⟨tm, [], H⟩ ∧ tm.length = 19 ∧ tm.getD 0 undef = .func (.yield K) #[] #[] ∧ tm.getD 1 undef = .pointer (some ⟨c, 0, none⟩) ∧ tm.getD 3 undef = .int .i64 ((k : Int) - 1) ∧ k ≤ n ∧ lastI p n = lastI p k ∧ J H)
    (fun x s => ∃ tm H', s = ⟨tm, [], H'⟩ ∧ (x = .exit 0 ∨ x = .ret) ∧ (match lastI p n with | some i => Good i H' | none => J H')) n ?_ ?_ ?_
  · refine ⟨_, _, rfl, ?_, ?_, ?_, ?_, Nat.le_refl _, rfl, h0⟩
    · simp only [List.length_set, hl]
    · simp (config := { decide := true }) only [rd_ne, ne_eq, i0]
    · simp (config := { decide := true }) only [rd_ne, ne_eq, i1]
    · simp (config := { decide := true }) only [rd_same, List.length_set, hl]
      rw [IntWalk.i64_in _ (by omega)]
  · rintro k _ ⟨tm, H, rfl, hl, i0, i1, i3, hk, hlast, hJH⟩
    obtain ⟨hc, ho, ⟨r0, hK, hp⟩, hval⟩ := hJ H hJH
    cases k with
    | zero =>
      right
      refine ⟨?x0, ?s0, ?h0, ?hx0, ?hq0⟩
      case h0 =>
        simp (config := { decide := true }) only [theCode_seq, theCode_list, theCode_exit, theCode_if, evalList_plain, evalList_nil, nd_move, nd_binOp, ok_tmp, ok_const, cl_int, opA_move, opA_bin, contA_val, putT_some, aev_tmp, aev_const, rd_same, List.length_set, thenA_normal, thenA_exit, boolOf_bool, bin_geq, Option.isSome_some, ↓reduceIte, Nat.reduceLT, Option.some.injEq, hl, i3]
        rfl
      case hx0 => exact fun h => by cases h
      case hq0 =>
        refine ⟨_, _, rfl, .inl rfl, ?_⟩
        rw [hlast]; exact hJH
    | succ k =>
      have i3' : tm.getD 3 undef = .int .i64 k := by rw [i3]; congr 1; omega
      have hge : (0 : Int) ≤ k := by omega
      have hix := indexAddrS_own (j := k) (k := .i64) ho (by omega) (by omega) es48 H
      rw [Int.toNat_natCast] at hix
      have hv := hval k (by omega)
      rw [loadV_flat agg56] at hv
      have hcs := callS_yield (P := Try.prog) (args := [.int .i64 k, val k]) hK (by rw [hp]; rfl)
      rcases hr k H (by omega) hJH with ⟨hpk, H', hrd, hJ'⟩ | ⟨hpk, H', hrd, hg⟩
      · left
        refine ⟨?s1, ?h1, k, Nat.lt_succ_self _, ?hq1⟩
        case h1 =>
          simp (config := { decide := true }) only [theCode_seq, theCode_list, theCode_skip, theCode_block, theCode_if, evalList_plain, evalList_nil, nd_move, nd_assign, nd_load, nd_binOp, nd_unOp, nd_indexAddr, nd_call, ok_tmp, ok_const, cl_int, opA_move, opA_assign, opA_load, opA_bin, opA_un, opA_call, opA_indexAddr, contA_val, contA_enter, callA_ret, putT_some, aev_tmp, aev_const, rd_same, rd_ne, List.length_set, valA_some, thenA_normal, inBlockA_normal, boolOf_bool, loadS_ptr, un_not,
    bin_geq, bin_sub, List.getElem?_cons_zero, Option.isSome_some, ne_eq, ↓reduceIte, Nat.reduceLT, Option.some.injEq, List.map_cons, List.map_nil, List.all_cons, List.all_nil, Bool.and_true, hl, i0, i1, i3', hge, agg48, loadV_flat, cell_eq, hc, cellO_box, List.getElem?_cons_zero, hix, hv, hcs, hrd, sli48, Bool.not_true]
          rfl
        case hq1 =>
          refine ⟨_, _, rfl, ?_, ?_, ?_, ?_, by omega, ?_, hJ'⟩
          · simp only [List.length_set, hl]
          · simp (config := { decide := true }) only [rd_ne, ne_eq, i0]
          · simp (config := { decide := true }) only [rd_ne, ne_eq, i1]
          · simp (config := { decide := true }) only [rd_same, List.length_set, hl]
            rw [IntWalk.i64_in _ (by omega)]
          · rw [hlast, lastI_succ, hpk]; rfl
      · right
        refine ⟨?x2, ?s2, ?h2, ?hx2, ?hq2⟩
        case h2 =>
          simp (config := { decide := true }) only [theCode_seq, theCode_list, theCode_skip, theCode_ret, theCode_block, theCode_if, evalList_plain, evalList_nil, nd_move, nd_load, nd_binOp, nd_unOp, nd_indexAddr, nd_call, ok_tmp, ok_const, cl_int, opA_move, opA_load, opA_bin, opA_un, opA_call, opA_indexAddr, contA_val, contA_enter, callA_ret, putT_some, aev_tmp, aev_const, rd_same, rd_ne, List.length_set, valA_some, thenA_normal, thenA_ret, inBlockA_ret, boolOf_bool, loadS_ptr, un_not,
    bin_geq, List.getElem?_cons_zero, Option.isSome_some, ne_eq, ↓reduceIte, Nat.reduceLT, Option.some.injEq, List.map_cons, List.map_nil, List.all_cons, List.all_nil, Bool.and_true, hl, i0, i1, i3', hge, agg48, loadV_flat, cell_eq, hc, cellO_box, List.getElem?_cons_zero, hix, hv, hcs, hrd, sli48, Bool.not_false]
          rfl
        case hx2 => exact fun h => by cases h
        case hq2 =>
          refine ⟨_, _, rfl, .inr rfl, ?_⟩
          rw [hlast, lastI_succ, if_pos hpk]; exact hg
  · rintro x _ hx' ⟨tm, H', rfl, hxx, hm⟩
    refine ⟨H', ?_, hm⟩
    rcases hxx with rfl | rfl
    · simp only [inBlockA_exit, leaveR_normal, resA_nil, pack_none,
    Option.map_some, ↓reduceIte]
    · simp only [inBlockA_ret, leaveR_ret, resA_nil, pack_none,
    Option.map_some]


theorem bw48 {ext : CallT} (hx : ∀ f args H, f ≠ 22 → ext f args H = none) {F : Option (AEnd × AHeap) → Prop} {H : AHeap} {K c n : Nat} {bl : Value} {cells : List Value} (hn : n < 1000000) {val : Nat → Value} (p : Nat → Bool) (J : AHeap → Prop) (Good : Nat → AHeap → Prop)
    (hJ : ∀ H, J H → H.get c = some (.box [bl] 51) ∧ Own H 62 3 bl n cells ∧ (∃ r0, H.get K = some (.loop r0) ∧ r0.params.size = 2) ∧ ∀ i, i < n → H.loadV Try.prog 62 (addA (baseOf bl) (i * 3)) = some (val i))
    (hr : ∀ (i : Nat) (H : AHeap), i < n → J H → (p i = false ∧ ∃ H', theCall Try.prog ext (Try.prog.funcs.size + K) [.int .i64 i, val i] H = some (.ret (.bool true), H') ∧ J H') ∨ (p i = true ∧ ∃ H', theCall Try.prog ext (Try.prog.funcs.size + K) [.int .i64 i, val i] H = some (.ret (.bool false), H') ∧ Good i H'))
    (h0 : J H) (hF : ∀ H', (match lastI p n with | some i => Good i H' | none => J H') → F (some (.ret (.tuple #[]), H'))) :
    F (theCall Try.prog ext 48 [.func (.yield K) #[] #[], .pointer (some ⟨c, 0, none⟩)] H) := by
  suffices hs : ∃ H', theCall Try.prog ext 48 [.func (.yield K) #[] #[], .pointer (some ⟨c, 0, none⟩)] H = some (.ret (.tuple #[]), H') ∧ (match lastI p n with | some i => Good i H' | none => J H') by
    obtain ⟨H', h1, h2⟩ := hs
    rw [h1]; exact hF H' h2
  obtain ⟨hc, ho, ⟨r0, hK, hp⟩, hval⟩ := hJ H h0
  have c3 := fun H2 => ho.lenS isl51 H2
  refine theCall_goal (F := fun z => ∃ H', z = some (.ret (.tuple #[]), H') ∧ (match lastI p n with | some i => Good i H' | none => J H')) (hx _ _ _ (by decide)) Try.func48 (rs := []) rfl rfl rfl (by simp) fun tm hl hi => ?_
  replace hl : tm.length = 19 := hl
  have i0 := hi 0
  have i1 := hi 1
  simp only [List.getD_cons_zero, List.getD_cons_succ] at i0 i1
  simp (config := { decide := true }) only [theCode_seq, theCode_list, theCode_block, evalList_plain, evalList_nil, nd_assign, nd_load, nd_binOp, nd_call, ok_tmp, ok_const, cl_int, opA_assign, opA_load, opA_bin, opA_len, contA_val, putT_some, aev_tmp, aev_const, rd_same, List.length_set, valA_some, thenA_normal, loadS_ptr, bin_sub, List.getElem?_cons_zero, Option.isSome_some, Nat.reduceLT, hl, i1, agg51, loadV_flat, cell_eq, hc, cellO_box, List.getElem?_cons_zero, c3]
  refine loop_goal (F := fun z => ∃ H', leaveR Try.prog [] (inBlockA 0 z) = some (.ret (.tuple #[]), H') ∧ (match lastI p n with | some i => Good i H' | none => J H'))
    (fun k s => ∃ tm H, s = ⟨tm, [], H⟩ ∧ tm.length = 19 ∧ tm.getD 0 undef = .func (.yield K) #[] #[] ∧ tm.getD 1 undef = .pointer (some ⟨c, 0, none⟩) ∧ tm.getD 3 undef = .int .i64 ((k : Int) - 1) ∧ k ≤ n ∧ lastI p n = lastI p k ∧ J H)
    (fun x s => ∃ tm H', s = ⟨tm, [], H'⟩ ∧ (x = .exit 0 ∨ x = .ret) ∧ (match lastI p n with | some i => Good i H' | none => J H')) n ?_ ?_ ?_
  · refine ⟨_, _, rfl, ?_, ?_, ?_, ?_, Nat.le_refl _, rfl, h0⟩
    · simp only [List.length_set, hl]
    · simp (config := { decide := true }) only [rd_ne, ne_eq, i0]
    · simp (config := { decide := true }) only [rd_ne, ne_eq, i1]
    · simp (config := { decide := true }) only [rd_same, List.length_set, hl]
      rw [IntWalk.i64_in _ (by omega)]
  · rintro k _ ⟨tm, H, rfl, hl, i0, i1, i3, hk, hlast, hJH⟩
    obtain ⟨hc, ho, ⟨r0, hK, hp⟩, hval⟩ := hJ H hJH
    cases k with
    | zero =>
      right
      refine ⟨?x0, ?s0, ?h0, ?hx0, ?hq0⟩
      case h0 =>
        simp (config := { decide := true }) only [theCode_seq, theCode_list, theCode_exit, theCode_if, evalList_plain, evalList_nil, nd_move, nd_binOp, ok_tmp, ok_const, cl_int, opA_move, opA_bin, contA_val, putT_some, aev_tmp, aev_const, rd_same, List.length_set, thenA_normal, thenA_exit, boolOf_bool, bin_geq, Option.isSome_some, ↓reduceIte, Nat.reduceLT, Option.some.injEq, hl, i3]
        rfl
      case hx0 => exact fun h => by cases h
      case hq0 =>
        refine ⟨_, _, rfl, .inl rfl, ?_⟩
        rw [hlast]; exact hJH
    | succ k =>
      have i3' : tm.getD 3 undef = .int .i64 k := by rw [i3]; congr 1; omega
      have hge : (0 : Int) ≤ k := by omega
      have hix := indexAddrS_own (j := k) (k := .i64) ho (by omega) (by omega) es51 H
      rw [Int.toNat_natCast] at hix
      have hv := hval k (by omega)
      skip
      have hcs := callS_yield (P := Try.prog) (args := [.int .i64 k, val k]) hK (by rw [hp]; rfl)
      rcases hr k H (by omega) hJH with ⟨hpk, H', hrd, hJ'⟩ | ⟨hpk, H', hrd, hg⟩
      · left
        refine ⟨?s1, ?h1, k, Nat.lt_succ_self _, ?hq1⟩
        case h1 =>
          simp (config := { decide := true }) only [theCode_seq, theCode_list, theCode_skip, theCode_block, theCode_if, evalList_plain, evalList_nil, nd_move, nd_assign, nd_load, nd_binOp, nd_unOp, nd_indexAddr, nd_call, ok_tmp, ok_const, cl_int, opA_move, opA_assign, opA_load, opA_bin, opA_un, opA_call, opA_indexAddr, contA_val, contA_enter, callA_ret, putT_some, aev_tmp, aev_const, rd_same, rd_ne, List.length_set, valA_some, thenA_normal, inBlockA_normal, boolOf_bool, loadS_ptr, un_not,
    bin_geq, bin_sub, List.getElem?_cons_zero, Option.isSome_some, ne_eq, ↓reduceIte, Nat.reduceLT, Option.some.injEq, List.map_cons, List.map_nil, List.all_cons, List.all_nil, Bool.and_true, hl, i0, i1, i3', hge, agg51, loadV_flat, cell_eq, hc, cellO_box, List.getElem?_cons_zero, hix, hv, hcs, hrd, sli51, Bool.not_true]
          rfl
        case hq1 =>
          refine ⟨_, _, rfl, ?_, ?_, ?_, ?_, by omega, ?_, hJ'⟩
          · simp only [List.length_set, hl]
          · simp (config := { decide := true }) only [rd_ne, ne_eq, i0]
          · simp (config := { decide := true }) only [rd_ne, ne_eq, i1]
          · simp (config := { decide := true }) only [rd_same, List.length_set, hl]
            rw [IntWalk.i64_in _ (by omega)]
          · rw [hlast, lastI_succ, hpk]; rfl
      · right
        refine ⟨?x2, ?s2, ?h2, ?hx2, ?hq2⟩
        case h2 =>
          simp (config := { decide := true }) only [theCode_seq, theCode_list, theCode_skip, theCode_ret, theCode_block, theCode_if, evalList_plain, evalList_nil, nd_move, nd_load, nd_binOp, nd_unOp, nd_indexAddr, nd_call, ok_tmp, ok_const, cl_int, opA_move, opA_load, opA_bin, opA_un, opA_call, opA_indexAddr, contA_val, contA_enter, callA_ret, putT_some, aev_tmp, aev_const, rd_same, rd_ne, List.length_set, valA_some, thenA_normal, thenA_ret, inBlockA_ret, boolOf_bool, loadS_ptr, un_not,
    bin_geq, List.getElem?_cons_zero, Option.isSome_some, ne_eq, ↓reduceIte, Nat.reduceLT, Option.some.injEq, List.map_cons, List.map_nil, List.all_cons, List.all_nil, Bool.and_true, hl, i0, i1, i3', hge, agg51, loadV_flat, cell_eq, hc, cellO_box, List.getElem?_cons_zero, hix, hv, hcs, hrd, sli51, Bool.not_false]
          rfl
        case hx2 => exact fun h => by cases h
        case hq2 =>
          refine ⟨_, _, rfl, .inr rfl, ?_⟩
          rw [hlast, lastI_succ, if_pos hpk]; exact hg
  · rintro x _ hx' ⟨tm, H', rfl, hxx, hm⟩
    refine ⟨H', ?_, hm⟩
    rcases hxx with rfl | rfl
    · simp only [inBlockA_exit, leaveR_normal, resA_nil, pack_none,
    Option.map_some, ↓reduceIte]
    · simp only [inBlockA_ret, leaveR_ret, resA_nil, pack_none,
    Option.map_some]


theorem bk45 {ext : CallT} (hx : ∀ f args H, f ≠ 22 → ext f args H = none) {H : AHeap} {e sz n : Nat} {bl : Value} {cells : List Value} (ho : Own H e sz bl n cells) :
    theCall Try.prog ext 45 [bl] H = some (.ret (.func (.func 47) #[] #[.pointer (some ⟨H.next, 0, none⟩)]), H.push (.box [bl] 48)) := by
  have c1 := ho.vcells
  have c2 := ho.flat
  refine theCall_run (hx _ _ _ (by decide)) Try.func45 (rs := [.tmp 2]) rfl rfl rfl (by simp) fun tm hl hi => ?_
  replace hl : tm.length = 4 := hl
  have i0 := hi 0
  simp only [List.getD_cons_zero] at i0
  simp (config := { decide := true }) only [theCode_seq, theCode_list, theCode_ret, evalList_plain, evalList_nil, nd_assign, nd_box, nd_makeFunc, ok_tmp, ok_const, cl_nilFunc, opA_assign, opA_box, opA_makeFunc0, contA_val, putT_some, aev_tmp, aev_const, rd_same, rd_ne, List.length_set, thenA_normal, leaveR_ret, resA_tmp, resA_nil, pack_one, Option.map_some, ne_eq, Nat.reduceLT, List.map_cons, List.map_nil, List.all_cons, List.all_nil, Bool.and_true, hl, i0, c1, c2, info48]


theorem bk46 {ext : CallT} (hx : ∀ f args H, f ≠ 22 → ext f args H = none) {H : AHeap} {e sz n : Nat} {bl : Value} {cells : List Value} (ho : Own H e sz bl n cells) :
    theCall Try.prog ext 46 [bl] H = some (.ret (.func (.func 48) #[] #[.pointer (some ⟨H.next, 0, none⟩)]), H.push (.box [bl] 51)) := by
  have c1 := ho.vcells
  have c2 := ho.flat
  refine theCall_run (hx _ _ _ (by decide)) Try.func46 (rs := [.tmp 2]) rfl rfl rfl (by simp) fun tm hl hi => ?_
  replace hl : tm.length = 4 := hl
  have i0 := hi 0
  simp only [List.getD_cons_zero] at i0
  simp (config := { decide := true }) only [theCode_seq, theCode_list, theCode_ret, evalList_plain, evalList_nil, nd_assign, nd_box, nd_makeFunc, ok_tmp, ok_const, cl_nilFunc, opA_assign, opA_box, opA_makeFunc0, contA_val, putT_some, aev_tmp, aev_const, rd_same, rd_ne, List.length_set, thenA_normal, leaveR_ret, resA_tmp, resA_nil, pack_one, Option.map_some, ne_eq, Nat.reduceLT, List.map_cons, List.map_nil, List.all_cons, List.all_nil, Bool.and_true, hl, i0, c1, c2, info51]

end Go.Proofs.Ytnjoaffnfjlcaaa

namespace Go.Proofs.Ytnjoaffnfjlcaaa
open Go Go.Proofs B


theorem zero3 : zeroV Try.prog 3 = some (.int .i64 0) := by unfold zeroV; rw [inf3]; rfl
theorem is27 {ext : CallT} (hx : ∀ f args H, f ≠ 22 → ext f args H = none) {H : AHeap} {r c : Nat} {nm : ByteArray} {l : List (ByteArray × Value)} (hc : H.get c = some (.box [.string nm] 9)) (hr : H.get r = some (.map (strE l))) :
    theCall Try.prog ext 27 [.map (some r), .pointer (some ⟨c, 0, none⟩)] H = some (.ret (.bool (lookB l nm).isSome), H) := by
  have hlk := lookS_str2 (P := Try.prog) (t := 56) (k := nm) (und_of Try.underlying56) us9 zero3 hr
  refine theCall_run (hx _ _ _ (by decide)) Try.func27 (rs := [.tmp 3]) rfl rfl rfl (by simp) fun tm hl hi => ?_
  replace hl : tm.length = 13 := hl
  have i0 := hi 0
  have i1 := hi 1
  simp only [List.getD_cons_zero, List.getD_cons_succ] at i0 i1
  simp (config := { decide := true }) only [theCode_seq, theCode_list, theCode_ret, evalList_plain, evalList_nil, nd_move, nd_assign, nd_load, nd_lookup, nd_extract, ok_tmp, ok_const, cl_bool, opA_move, opA_assign, opA_load, opA_extract, opA_lookup, contA_val, putT_some, aev_tmp, aev_const, rd_same, rd_ne, List.length_set, valA_some, thenA_normal, loadS_ptr, extractS_tuple, leaveR_ret, resA_tmp, resA_nil, List.getElem?_toArray, List.getElem?_cons_zero, List.getElem?_cons_succ, pack_one, Option.map_some, ne_eq, Nat.reduceLT, hl, i0, i1, agg9, loadV_flat, cell_eq, hc, cellO_box, List.getElem?_cons_zero, List.getElem?_cons_succ, hlk]


theorem is29_true_true {ext : CallT} (hx : ∀ f args H, f ≠ 22 → ext f args H = none) {H : AHeap} {c1 c2 : Nat} {nm s : ByteArray} {no : Int} (hf : H.Fresh) (hc : H.get c1 = some (.box [.string nm] 9)) (hc2 : H.get c2 = some (.box [.bool true] 4)) :
    theCall Try.prog ext 29 [.agg #[.string s, .bool true, .int .i64 no], .pointer (some ⟨c1, 0, none⟩), .pointer (some ⟨c2, 0, none⟩)] H =
      some (.ret (.bool ((decide (nm = ⟨#[]⟩) || decide (s = nm)) && (true || !true))), H.push (.box [.string s, .bool true, .int .i64 no] 62)) := by
  have g1 : (H.push (.box [.string s, .bool true, .int .i64 no] 62)).get c1 = some (.box [.string nm] 9) := by rw [get_push_old (by have := get_lt hf hc; omega)]; exact hc
  have g2 : (H.push (.box [.string s, .bool true, .int .i64 no] 62)).get c2 = some (.box [.bool true] 4) := by rw [get_push_old (by have := get_lt hf hc2; omega)]; exact hc2
  have g3 : (H.push (.box [.string s, .bool true, .int .i64 no] 62)).get H.next = some (.box [.string s, .bool true, .int .i64 no] 62) := get_push_new
  refine theCall_run (hx _ _ _ (by decide)) Try.func29 (rs := [.tmp 4]) rfl rfl rfl (by simp) fun tm hl hi => ?_
  replace hl : tm.length = 21 := hl
  have i0 := hi 0
  have i1 := hi 1
  have i2 := hi 2
  simp only [List.getD_cons_zero, List.getD_cons_succ] at i0 i1 i2
  obtain ⟨q1, hq1⟩ : ∃ q, decide (nm = ⟨#[]⟩) = q := ⟨_, rfl⟩
  obtain ⟨q2, hq2⟩ : ∃ q, decide (s = nm) = q := ⟨_, rfl⟩
  cases q1 <;> cases q2 <;>
  simp (config := { decide := true }) only [theCode_seq, theCode_list, theCode_ret, evalList_plain, evalList_guard, evalList_nil, nd_move, nd_assign, nd_pick, nd_box, nd_load, nd_binOp, nd_unOp, nd_fieldAddr, ok_tmp, ok_const, cl_bool, cl_string, opA_move, opA_assign, opA_pick, opA_load, opA_fieldAddr, opA_bin, opA_box, contA_val, putT_some, aev_tmp, aev_const, rd_same, rd_ne, List.length_set, valA_some, thenA_normal, boolOf_bool, loadS_ptr, fieldAddrS_eq, bin_seql, leaveR_ret, resA_tmp, resA_nil, yieldA_S, slotAt_succ, slotAt_zero, yieldS_some, List.getElem?_cons_zero, List.getElem?_cons_succ, pack_one, Option.map_some, Option.isSome_some, ne_eq, ↓reduceIte, Nat.reduceLT, Nat.zero_add, Option.some.injEq, List.all_cons, List.all_nil, Bool.and_true, hl, i0, i1, vc_agg, fl_string, fl_bool, fl_int, info62, off62_0, off62_1, agg9, agg4, loadV_flat, cell_eq, g1, g3, cellO_box, List.getElem?_cons_zero, List.getElem?_cons_succ, hq1, hq2, Bool.not_true, Bool.or_true, Bool.or_false]


theorem is29_true_false {ext : CallT} (hx : ∀ f args H, f ≠ 22 → ext f args H = none) {H : AHeap} {c1 c2 : Nat} {nm s : ByteArray} {no : Int} (hf : H.Fresh) (hc : H.get c1 = some (.box [.string nm] 9)) (hc2 : H.get c2 = some (.box [.bool false] 4)) :
    theCall Try.prog ext 29 [.agg #[.string s, .bool true, .int .i64 no], .pointer (some ⟨c1, 0, none⟩), .pointer (some ⟨c2, 0, none⟩)] H =
      some (.ret (.bool ((decide (nm = ⟨#[]⟩) || decide (s = nm)) && (true || !false))), H.push (.box [.string s, .bool true, .int .i64 no] 62)) := by
  have g1 : (H.push (.box [.string s, .bool true, .int .i64 no] 62)).get c1 = some (.box [.string nm] 9) := by rw [get_push_old (by have := get_lt hf hc; omega)]; exact hc
  have g2 : (H.push (.box [.string s, .bool true, .int .i64 no] 62)).get c2 = some (.box [.bool false] 4) := by rw [get_push_old (by have := get_lt hf hc2; omega)]; exact hc2
  have g3 : (H.push (.box [.string s, .bool true, .int .i64 no] 62)).get H.next = some (.box [.string s, .bool true, .int .i64 no] 62) := get_push_new
  refine theCall_run (hx _ _ _ (by decide)) Try.func29 (rs := [.tmp 4]) rfl rfl rfl (by simp) fun tm hl hi => ?_
  replace hl : tm.length = 21 := hl
  have i0 := hi 0
  have i1 := hi 1
  have i2 := hi 2
  simp only [List.getD_cons_zero, List.getD_cons_succ] at i0 i1 i2
  obtain ⟨q1, hq1⟩ : ∃ q, decide (nm = ⟨#[]⟩) = q := ⟨_, rfl⟩
  obtain ⟨q2, hq2⟩ : ∃ q, decide (s = nm) = q := ⟨_, rfl⟩
  cases q1 <;> cases q2 <;>
  simp (config := { decide := true }) only [theCode_seq, theCode_list, theCode_ret, evalList_plain, evalList_guard, evalList_nil, nd_move, nd_assign, nd_pick, nd_box, nd_load, nd_binOp, nd_unOp, nd_fieldAddr, ok_tmp, ok_const, cl_bool, cl_string, opA_move, opA_assign, opA_pick, opA_load, opA_fieldAddr, opA_bin, opA_box, contA_val, putT_some, aev_tmp, aev_const, rd_same, rd_ne, List.length_set, valA_some, thenA_normal, boolOf_bool, loadS_ptr, fieldAddrS_eq, bin_seql, leaveR_ret, resA_tmp, resA_nil, yieldA_S, slotAt_succ, slotAt_zero, yieldS_some, List.getElem?_cons_zero, List.getElem?_cons_succ, pack_one, Option.map_some, Option.isSome_some, ne_eq, ↓reduceIte, Nat.reduceLT, Nat.zero_add, Option.some.injEq, List.all_cons, List.all_nil, Bool.and_true, hl, i0, i1, vc_agg, fl_string, fl_bool, fl_int, info62, off62_0, off62_1, agg9, agg4, loadV_flat, cell_eq, g1, g3, cellO_box, List.getElem?_cons_zero, List.getElem?_cons_succ, hq1, hq2, Bool.not_false, Bool.or_true, Bool.or_false]


theorem is29_false_true {ext : CallT} (hx : ∀ f args H, f ≠ 22 → ext f args H = none) {H : AHeap} {c1 c2 : Nat} {nm s : ByteArray} {no : Int} (hf : H.Fresh) (hc : H.get c1 = some (.box [.string nm] 9)) (hc2 : H.get c2 = some (.box [.bool true] 4)) :
    theCall Try.prog ext 29 [.agg #[.string s, .bool false, .int .i64 no], .pointer (some ⟨c1, 0, none⟩), .pointer (some ⟨c2, 0, none⟩)] H =
      some (.ret (.bool ((decide (nm = ⟨#[]⟩) || decide (s = nm)) && (false || !true))), H.push (.box [.string s, .bool false, .int .i64 no] 62)) := by
  have g1 : (H.push (.box [.string s, .bool false, .int .i64 no] 62)).get c1 = some (.box [.string nm] 9) := by rw [get_push_old (by have := get_lt hf hc; omega)]; exact hc
  have g2 : (H.push (.box [.string s, .bool false, .int .i64 no] 62)).get c2 = some (.box [.bool true] 4) := by rw [get_push_old (by have := get_lt hf hc2; omega)]; exact hc2
  have g3 : (H.push (.box [.string s, .bool false, .int .i64 no] 62)).get H.next = some (.box [.string s, .bool false, .int .i64 no] 62) := get_push_new
  refine theCall_run (hx _ _ _ (by decide)) Try.func29 (rs := [.tmp 4]) rfl rfl rfl (by simp) fun tm hl hi => ?_
  replace hl : tm.length = 21 := hl
  have i0 := hi 0
  have i1 := hi 1
  have i2 := hi 2
  simp only [List.getD_cons_zero, List.getD_cons_succ] at i0 i1 i2
  obtain ⟨q1, hq1⟩ : ∃ q, decide (nm = ⟨#[]⟩) = q := ⟨_, rfl⟩
  obtain ⟨q2, hq2⟩ : ∃ q, decide (s = nm) = q := ⟨_, rfl⟩
  cases q1 <;> cases q2 <;>
  simp (config := { decide := true }) only [theCode_seq, theCode_list, theCode_ret, evalList_plain, evalList_guard, evalList_nil, nd_move, nd_assign, nd_pick, nd_box, nd_load, nd_binOp, nd_unOp, nd_fieldAddr, ok_tmp, ok_const, cl_bool, cl_string, opA_move, opA_assign, opA_pick, opA_load, opA_fieldAddr, opA_bin, opA_un, opA_box, contA_val, putT_some, aev_tmp, aev_const, rd_same, rd_ne, List.length_set, valA_some, thenA_normal, boolOf_bool, loadS_ptr, fieldAddrS_eq, un_not,
    bin_seql, leaveR_ret, resA_tmp, resA_nil, yieldA_S, slotAt_succ, slotAt_zero, yieldS_some, List.getElem?_cons_zero, List.getElem?_cons_succ, pack_one, Option.map_some, Option.isSome_some, ne_eq, ↓reduceIte, Nat.reduceLT, Nat.zero_add, Option.some.injEq, List.all_cons, List.all_nil, Bool.and_true, hl, i0, i1, i2, vc_agg, fl_string, fl_bool, fl_int, info62, off62_0, off62_1, agg9, agg4, loadV_flat, cell_eq, g1, g2, g3, cellO_box, List.getElem?_cons_zero, List.getElem?_cons_succ, hq1, hq2, Bool.not_true, Bool.or_true, Bool.or_false, Bool.and_false]


theorem is29_false_false {ext : CallT} (hx : ∀ f args H, f ≠ 22 → ext f args H = none) {H : AHeap} {c1 c2 : Nat} {nm s : ByteArray} {no : Int} (hf : H.Fresh) (hc : H.get c1 = some (.box [.string nm] 9)) (hc2 : H.get c2 = some (.box [.bool false] 4)) :
    theCall Try.prog ext 29 [.agg #[.string s, .bool false, .int .i64 no], .pointer (some ⟨c1, 0, none⟩), .pointer (some ⟨c2, 0, none⟩)] H =
      some (.ret (.bool ((decide (nm = ⟨#[]⟩) || decide (s = nm)) && (false || !false))), H.push (.box [.string s, .bool false, .int .i64 no] 62)) := by
  have g1 : (H.push (.box [.string s, .bool false, .int .i64 no] 62)).get c1 = some (.box [.string nm] 9) := by rw [get_push_old (by have := get_lt hf hc; omega)]; exact hc
  have g2 : (H.push (.box [.string s, .bool false, .int .i64 no] 62)).get c2 = some (.box [.bool false] 4) := by rw [get_push_old (by have := get_lt hf hc2; omega)]; exact hc2
  have g3 : (H.push (.box [.string s, .bool false, .int .i64 no] 62)).get H.next = some (.box [.string s, .bool false, .int .i64 no] 62) := get_push_new
  refine theCall_run (hx _ _ _ (by decide)) Try.func29 (rs := [.tmp 4]) rfl rfl rfl (by simp) fun tm hl hi => ?_
  replace hl : tm.length = 21 := hl
  have i0 := hi 0
  have i1 := hi 1
  have i2 := hi 2
  simp only [List.getD_cons_zero, List.getD_cons_succ] at i0 i1 i2
  obtain ⟨q1, hq1⟩ : ∃ q, decide (nm = ⟨#[]⟩) = q := ⟨_, rfl⟩
  obtain ⟨q2, hq2⟩ : ∃ q, decide (s = nm) = q := ⟨_, rfl⟩
  cases q1 <;> cases q2 <;>
  simp (config := { decide := true }) only [theCode_seq, theCode_list, theCode_ret, evalList_plain, evalList_guard, evalList_nil, nd_move, nd_assign, nd_pick, nd_box, nd_load, nd_binOp, nd_unOp, nd_fieldAddr, ok_tmp, ok_const, cl_bool, cl_string, opA_move, opA_assign, opA_pick, opA_load, opA_fieldAddr, opA_bin, opA_un, opA_box, contA_val, putT_some, aev_tmp, aev_const, rd_same, rd_ne, List.length_set, valA_some, thenA_normal, boolOf_bool, loadS_ptr, fieldAddrS_eq, un_not,
    bin_seql, leaveR_ret, resA_tmp, resA_nil, yieldA_S, slotAt_succ, slotAt_zero, yieldS_some, List.getElem?_cons_zero, List.getElem?_cons_succ, pack_one, Option.map_some, Option.isSome_some, ne_eq, ↓reduceIte, Nat.reduceLT, Nat.zero_add, Option.some.injEq, List.all_cons, List.all_nil, Bool.and_true, hl, i0, i1, i2, vc_agg, fl_string, fl_bool, fl_int, info62, off62_0, off62_1, agg9, agg4, loadV_flat, cell_eq, g1, g2, g3, cellO_box, List.getElem?_cons_zero, List.getElem?_cons_succ, hq1, hq2, Bool.not_false, Bool.or_true, Bool.or_false]


theorem is29 {ext : CallT} (hx : ∀ f args H, f ≠ 22 → ext f args H = none) {H : AHeap} {c1 c2 : Nat} {nm s : ByteArray} {tn lp : Bool} {no : Int} (hf : H.Fresh) (hc : H.get c1 = some (.box [.string nm] 9)) (hc2 : H.get c2 = some (.box [.bool tn] 4)) :
    theCall Try.prog ext 29 [.agg #[.string s, .bool lp, .int .i64 no], .pointer (some ⟨c1, 0, none⟩), .pointer (some ⟨c2, 0, none⟩)] H =
      some (.ret (.bool ((decide (nm = ⟨#[]⟩) || decide (s = nm)) && (lp || !tn))), H.push (.box [.string s, .bool lp, .int .i64 no] 62)) := by
  cases lp <;> cases tn
  · exact is29_false_false hx hf hc hc2
  · exact is29_false_true hx hf hc hc2
  · exact is29_true_false hx hf hc hc2
  · exact is29_true_true hx hf hc hc2

theorem is32 {ext : CallT} (hx : ∀ f args H, f ≠ 22 → ext f args H = none) {H : AHeap} {c1 : Nat} {nm s : ByteArray} {lp : Bool} {no : Int} (hf : H.Fresh) (hc : H.get c1 = some (.box [.string nm] 9)) :
    theCall Try.prog ext 32 [.agg #[.string s, .bool lp, .int .i64 no], .pointer (some ⟨c1, 0, none⟩)] H =
      some (.ret (.bool (!decide (nm = ⟨#[]⟩) && decide (s = nm))), H.push (.box [.string s, .bool lp, .int .i64 no] 62)) := by
  have g1 : (H.push (.box [.string s, .bool lp, .int .i64 no] 62)).get c1 = some (.box [.string nm] 9) := by rw [get_push_old (by have := get_lt hf hc; omega)]; exact hc
  have g3 : (H.push (.box [.string s, .bool lp, .int .i64 no] 62)).get H.next = some (.box [.string s, .bool lp, .int .i64 no] 62) := get_push_new
  refine theCall_run (hx _ _ _ (by decide)) Try.func32 (rs := [.tmp 3]) rfl rfl rfl (by simp) fun tm hl hi => ?_
  replace hl : tm.length = 12 := hl
  have i0 := hi 0
  have i1 := hi 1
  simp only [List.getD_cons_zero, List.getD_cons_succ] at i0 i1
  obtain ⟨q1, hq1⟩ : ∃ q, decide (nm = ⟨#[]⟩) = q := ⟨_, rfl⟩
  obtain ⟨q2, hq2⟩ : ∃ q, decide (s = nm) = q := ⟨_, rfl⟩
  cases q1 <;> cases q2 <;>
  simp (config := { decide := true }) only [theCode_seq, theCode_list, theCode_ret, evalList_plain, evalList_guard, evalList_nil, nd_move, nd_assign, nd_pick, nd_box, nd_load, nd_binOp, nd_fieldAddr, ok_tmp, ok_const, cl_bool, cl_string, opA_move, opA_assign, opA_pick, opA_load, opA_fieldAddr, opA_bin, opA_box, contA_val, putT_some, aev_tmp, aev_const, rd_same, rd_ne, List.length_set, valA_some, thenA_normal, boolOf_bool, loadS_ptr, fieldAddrS_eq, bin_seql, bin_sneq, leaveR_ret, resA_tmp, resA_nil, yieldA_S, slotAt_succ, slotAt_zero, yieldS_some, List.getElem?_cons_zero, pack_one, Option.map_some, Option.isSome_some, ne_eq, ↓reduceIte, Nat.reduceLT, Nat.zero_add, Option.some.injEq, List.all_cons, List.all_nil, Bool.and_true, hl, i0, i1, vc_agg, fl_string, fl_bool, fl_int, info62, off62_0, agg9, loadV_flat, cell_eq, g1, g3, cellO_box, List.getElem?_cons_zero, hq1, hq2, Bool.not_true, Bool.not_false, Bool.and_false]

end Go.Proofs.Ytnjoaffnfjlcaaa

namespace Go.Proofs.Ytnjoaffnfjlcaaa
open Go Go.Proofs B
theorem zf56 : zeroOf Try.prog 56 = some (.map none) := by unfold zeroOf; rw [inf56]; rfl
theorem zf62 : zeroOf Try.prog 62 = some (.agg #[.string ⟨#[]⟩, .bool false, .int .i64 0]) := by unfold zeroOf; rw [inf62]; rfl
theorem zf4 : zeroOf Try.prog 4 = some (.bool false) := by unfold zeroOf; rw [inf4]; rfl


theorem find26 {ext : CallT} (hx : ∀ f args H, f ≠ 22 → ext f args H = none) {H : AHeap} (hf : H.Fresh) {b n : Nat} {bl tl ts nx : Value} {cells : List Value} (hb : H.get b = some (.box [bl, tl, ts, nx] 55)) (ho : Own H 56 1 bl n cells) (hn : n < 1000000)
    {val : Nat → Value} (hval : ∀ H2, Grown H H2 → ∀ i, i < n → H2.loadV Try.prog 56 (addA (baseOf bl) (i * 1)) = some (val i)) (hvc : ∀ i, i < n → (val i).cells.size = 1 ∧ (val i).cells.toList.all flatV = true ∧ (val i).cells = #[val i])
    {cf : FuncId} {caps : List Value} (hcf : enterB Try.prog cf = true) (p : Nat → Bool)
    (his : ∀ i H1, i < n → Grown H H1 → ∃ H2, theCall Try.prog ext cf (val i :: caps) H1 = some (.ret (.bool (p i)), H2) ∧ Grown H1 H2) :
    ∃ H', theCall Try.prog ext 26 [.pointer (some ⟨b, 0, none⟩), .func (.func cf) #[] caps.toArray] H = some (.ret (.tuple #[(match lastI p n with | some i => val i | none => .map none), .bool (lastI p n).isSome]), H') ∧ Grown H H' := by
  have c1 := ho.vcells
  have c2 := ho.flat
  obtain ⟨H1, e1⟩ : ∃ X, H.push (.box [.func (.func cf) #[] caps.toArray] 60) = X := ⟨_, rfl⟩
  have n1 : H1.next = H.next + 1 := by rw [← e1]; rfl
  have g1 : Grown H H1 := by rw [← e1]; exact Grown.push hf _
  have x1 : H1.get H.next = some (.box [.func (.func cf) #[] caps.toArray] 60) := by rw [← e1]; exact get_push_new
  obtain ⟨H2, e2⟩ : ∃ X, H1.push (.box [.map none] 56) = X := ⟨_, rfl⟩
  have n2 : H2.next = H.next + 2 := by rw [← e2, AHeap.push_next, n1]
  have g2 : Grown H1 H2 := by rw [← e2]; exact Grown.push g1.fresh _
  have x2 : H2.get (H.next + 1) = some (.box [.map none] 56) := by rw [← e2, ← n1]; exact get_push_new
  obtain ⟨H3, e3⟩ : ∃ X, H2.push (.box [.bool false] 4) = X := ⟨_, rfl⟩
  have n3 : H3.next = H.next + 3 := by rw [← e3, AHeap.push_next, n2]
  have g3 : Grown H2 H3 := by rw [← e3]; exact Grown.push g2.fresh _
  have x3 : H3.get (H.next + 2) = some (.box [.bool false] 4) := by rw [← e3, ← n2]; exact get_push_new
  have g03 : Grown H H3 := (g1.trans g2).trans g3
  have hb3 : H3.get b = some (.box [bl, tl, ts, nx] 55) := g03.has hf hb
  have ho3 : Own H3 56 1 bl n cells := g03.own hf ho
  have hbk := bk45 (ext := ext) hx ho3
  obtain ⟨H4, e4⟩ : ∃ X, H3.push (.box [bl] 48) = X := ⟨_, rfl⟩
  have n4 : H4.next = H.next + 4 := by rw [← e4, AHeap.push_next, n3]
  have g4 : Grown H3 H4 := by rw [← e4]; exact Grown.push g3.fresh _
  have x4 : H4.get (H.next + 3) = some (.box [bl] 48) := by rw [← e4, ← n3]; exact get_push_new
  rw [e4, n3] at hbk
  have y1 : H4.get H.next = some (.box [.func (.func cf) #[] caps.toArray] 60) := ((g2.trans g3).trans g4).has g1.fresh x1
  have y2 : H4.get (H.next + 1) = some (.box [.map none] 56) := (g3.trans g4).has g2.fresh x2
  have y3 : H4.get (H.next + 2) = some (.box [.bool false] 4) := g4.has g3.fresh x3
  have g04 : Grown H H4 := g03.trans g4
  refine theCall_goal (F := fun z => ∃ H', z = some (.ret (.tuple #[(match lastI p n with | some i => val i | none => .map none), .bool (lastI p n).isSome]), H') ∧ Grown H H') (hx _ _ _ (by decide)) Try.func26 (rs := [.cell 4 56, .cell 5 4]) rfl rfl rfl (by simp) fun tm hl hi => ?_
  replace hl : tm.length = 21 := hl
  have i0 := hi 0
  have i1 := hi 1
  simp only [List.getD_cons_zero, List.getD_cons_succ] at i0 i1
  simp (config := { decide := true }) only [theCode_seq, theCode_list, theCode_ret, theCode_block, evalList_plain, evalList_nil, nd_move, nd_assign, nd_alloc, nd_box, nd_load, nd_store, nd_nilCheck, nd_fieldAddr, nd_call, ok_tmp, ok_const, ok_func, cl_map, opA_move, opA_assign, opA_load, opA_store, opA_nilCheck, opA_fieldAddr, opA_call, opA_box, opA_alloc, contA_val, contA_enter, callA_ret, putT_some, aev_tmp, aev_const, aev_func, rd_same, rd_ne, List.length_set, valA_some, thenA_normal, loadS_ptr, nilCheckS_ptr, fieldAddrS_eq, callS_func, List.getElem?_cons_zero, theCode_rangeS, rangeS_cap, Option.map_some, ne_eq, Nat.reduceLT, Nat.zero_add, List.map_cons, List.map_nil, List.all_cons, List.all_nil, Bool.and_true, List.nil_append, List.append_nil, hl, i0, i1, vc_func, fl_func, vc_bool, vc_map, info60, zf56, zf4, e1, e2, e3, n1, n2, n4, off50_0, agg48, loadV_flat, cell_eq, hb3, cellO_box, en45, en47, hbk]
  have hf5 : ∀ o, (H4.push o).Fresh := fun o => (AHeap.le_push H4 o).fresh g4.fresh
  have hK5 : ∀ o, (H4.push o).get (H.next + 4) = some o := fun o => by rw [← n4]; exact get_push_new
  have n5 : ∀ o, (H4.push o).next = H.next + 5 := fun o => by rw [AHeap.push_next, n4]
  have hlow : ∀ o Y, Grown (H4.push o) Y → ∀ j x, H4.get j = some x → Y.get j = some x := fun o Y hY j x hx => by
    rw [hY.get j (by have := get_lt g4.fresh hx; rw [n5]; omega), get_push_old (by have := get_lt g4.fresh hx; omega)]; exact hx
  generalize hT : theCall Try.prog ext 47 _ _ = T
  let PX : AHeap → Prop := fun X => match lastI p n with
      | some i => (∃ t ps ac bd, X.get (H.next + 4) = some (.loop ⟨.done, some .ret, t, ps, ac, bd⟩)) ∧ X.get (H.next + 1) = some (.box (val i).cells.toList 56) ∧ X.get (H.next + 2) = some (.box [.bool true] 4) ∧ Grown H X
      | none => (∃ t ps ac bd, X.get (H.next + 4) = some (.loop ⟨.ready, none, t, ps, ac, bd⟩)) ∧ X.get (H.next + 1) = some (.box [.map none] 56) ∧ X.get (H.next + 2) = some (.box [.bool false] 4) ∧ Grown H X
  obtain ⟨X, rfl, hm⟩ : ∃ X, T = some (.ret (.tuple #[]), X) ∧ PX X := by
   rw [← hT]
   refine bw47 hx (F := fun z => ∃ X, z = some (.ret (.tuple #[]), X) ∧ PX X) (bl := bl) (cells := cells) hn (val := val) p (Grown (H4.push (.loop _)))
    (fun i X => (∃ t ps ac bd, X.get (H.next + 4) = some (.loop ⟨.done, some .ret, t, ps, ac, bd⟩)) ∧ X.get (H.next + 1) = some (.box (val i).cells.toList 56) ∧ X.get (H.next + 2) = some (.box [.bool true] 4) ∧ Grown H X)
    ?hJ ?hr (Grown.refl (hf5 _)) ?hF
   case hJ =>
    intro Y hY
    have hGY : Grown H Y := (g04.push2 _).trans hY
    exact ⟨hlow _ _ hY _ _ x4, hGY.own hf ho, ⟨_, hY.has (hf5 _) (hK5 _), rfl⟩, hval Y hGY⟩
   case hr =>
    intro i Y hi hY
    have hGY : Grown H Y := (g04.push2 _).trans hY
    have hK1 := hY.has (hf5 _) (hK5 _)
    have q1 := hlow _ _ hY _ _ y1
    have q2 := hlow _ _ hY _ _ y2
    have q3 := hlow _ _ hY _ _ y3
    have hYn : H.next + 5 ≤ Y.next := by have := hY.next; rw [n5] at this; exact this
    have hv1 := (hvc i hi).1
    have hv2 := (hvc i hi).2.1
    have hv3 := (hvc i hi).2.2
    have hcl : ∀ o, ∃ X, theCall Try.prog ext cf (val i :: caps) (Y.set (H.next + 4) o) = some (.ret (.bool (p i)), X) ∧ Grown (Y.set (H.next + 4) o) X := fun o => his i _ hi (hGY.set2 o hK1 (by omega))
    obtain ⟨G, hG1, hG2⟩ : ∃ G : AObj → AHeap, (∀ o, theCall Try.prog ext cf (val i :: caps) (Y.set (H.next + 4) o) = some (.ret (.bool (p i)), G o)) ∧ ∀ o, Grown (Y.set (H.next + 4) o) (G o) := ⟨fun o => (hcl o).choose, fun o => (hcl o).choose_spec.1, fun o => (hcl o).choose_spec.2⟩
    have lowG : ∀ o j x, j ≠ H.next + 4 → Y.get j = some x → (G o).get j = some x := fun o j x hj hx => by
      rw [(hG2 o).get j (by rw [AHeap.set_next]; exact get_lt hY.fresh hx), get_set_ne hj]; exact hx
    have r1 : ∀ o, (Y.set (H.next + 4) o).get H.next = some (.box [.func (.func cf) #[] caps.toArray] 60) := fun o => by rw [get_set_ne (by omega)]; exact q1
    have r2 : ∀ o, (G o).get (H.next + 4) = some o := fun o => by rw [(hG2 o).get _ (by rw [AHeap.set_next]; omega)]; exact get_set_same
    have r3 : ∀ o, (G o).get (H.next + 1) = some (.box [.map none] 56) := fun o => lowG o _ _ (by omega) q2
    have r4 : ∀ o x, ((G o).set (H.next + 1) x).get (H.next + 2) = some (.box [.bool false] 4) := fun o x => by rw [get_set_ne (by omega)]; exact lowG o _ _ (by omega) q3
    have r5 : ∀ o x y, (((G o).set (H.next + 1) x).set (H.next + 2) y).get (H.next + 4) = some o := fun o x y => by rw [get_set_ne (by omega), get_set_ne (by omega)]; exact r2 o
    have st1 : ∀ o, (G o).storeV Try.prog 56 ⟨H.next + 1, 0, none⟩ (val i) = some ((G o).set (H.next + 1) (.box (val i).cells.toList 56)) := fun o => storeV_box info56 (r3 o) (by rw [cells56]; rfl) (by rw [hv1]; rfl) hv2
    have st2 : ∀ o x, ((G o).set (H.next + 1) x).storeV Try.prog 4 ⟨H.next + 2, 0, none⟩ (.bool true) = some (((G o).set (H.next + 1) x).set (H.next + 2) (.box [.bool true] 4)) := fun o x => by
      rw [storeV_box info4 (r4 o x) (by rw [cells4]; rfl) (by rw [vc_bool]; rfl) (by rw [vc_bool]; rfl), vc_bool]
    cases hp : p i with
    | false =>
      left
      refine ⟨rfl, ?X1, ?h1, ?j1⟩
      case h1 =>
        rw [theCall_round (hx _ _ _ size_ne) hK1]
        simp (config := { decide := true }) only [theCode_seq, theCode_list, theCode_skip, theCode_block, theCode_if, evalList_plain, evalList_nil, nd_move, nd_assign, nd_load, nd_call, ok_tmp, opA_move, opA_assign, opA_load, opA_call, contA_val, contA_enter, callA_ret, putT_some, aev_tmp, rd_same, rd_ne, List.length_set, valA_some, thenA_normal, inBlockA_normal, boolOf_bool, loadS_ptr, callS_func, List.getElem?_cons_zero, roundA_M, roundM_ready, roundB_N, roundN_none, setAll_nil, setAll_cons, Option.isSome_some, ne_eq, ↓reduceIte, Nat.reduceLT, Option.some.injEq, List.map_cons, List.map_nil, List.all_cons, List.all_nil, Bool.and_true, List.nil_append, List.cons_append, hl, hK1, agg60, loadV_flat, cell_eq, r1, cellO_box, hcf, hG1, hp, r2]
        rfl
      case j1 => exact hY.back hK1 (hG2 _) (hK5 _) (by rw [n5]; omega)
    | true =>
      right
      refine ⟨rfl, ?X2, ?h2, ?j2⟩
      case h2 =>
        rw [theCall_round (hx _ _ _ size_ne) hK1]
        simp (config := { decide := true }) only [theCode_seq, theCode_list, theCode_ret, theCode_block, theCode_if, evalList_plain, evalList_nil, nd_move, nd_assign, nd_load, nd_store, nd_call, ok_tmp, ok_const, cl_bool, opA_move, opA_assign, opA_load, opA_store, opA_call, contA_val, contA_skip, contA_enter, callA_ret, putT_some, putT_none, aev_tmp, aev_const, rd_same, rd_ne, List.length_set, valA_some, skipA_some, thenA_normal, inBlockA_ret, boolOf_bool, loadS_ptr, storeS_ptr, callS_func, List.getElem?_cons_zero, roundA_M, roundM_ready, roundB_R, roundN_some, setAll_nil, setAll_cons, Option.isSome_some, ne_eq, ↓reduceIte, Nat.reduceLT, Option.some.injEq, List.map_cons, List.map_nil, List.all_cons, List.all_nil, Bool.and_true, List.nil_append, List.cons_append, hl, hK1, agg60, loadV_flat, cell_eq, r1, cellO_box, hcf, hG1, hp, st1, st2, r5]
        rfl
      case j2 =>
        refine ⟨⟨_, _, _, _, get_set_same⟩, ?_, ?_, ?_⟩
        · rw [get_set_ne (by omega), get_set_ne (by omega)]; exact get_set_same
        · rw [get_set_ne (by omega)]; exact get_set_same
        · refine Grown.set2 (Grown.set2 (Grown.set2 ((hGY.set2 _ hK1 (by omega)).trans (hG2 _)) _ (r3 _) (by omega)) _ (r4 _ _) (by omega)) _ (r5 _ _ _) (by omega)
   case hF =>
    intro X hm
    refine ⟨X, rfl, ?_⟩
    show match lastI p n with
      | some i => (∃ t ps ac bd, X.get (H.next + 4) = some (.loop ⟨.done, some .ret, t, ps, ac, bd⟩)) ∧ X.get (H.next + 1) = some (.box (val i).cells.toList 56) ∧ X.get (H.next + 2) = some (.box [.bool true] 4) ∧ Grown H X
      | none => (∃ t ps ac bd, X.get (H.next + 4) = some (.loop ⟨.ready, none, t, ps, ac, bd⟩)) ∧ X.get (H.next + 1) = some (.box [.map none] 56) ∧ X.get (H.next + 2) = some (.box [.bool false] 4) ∧ Grown H X
    cases hq : lastI p n with
    | some i => rw [hq] at hm; exact hm
    | none =>
      rw [hq] at hm
      have hX : Grown (H4.push (.loop _)) X := hm
      exact ⟨⟨_, _, _, _, hX.has (hf5 _) (hK5 _)⟩, hlow _ _ hX _ _ y2, hlow _ _ hX _ _ y3, (g04.push2 _).trans hX⟩
  clear hT
  replace hm : match lastI p n with
      | some i => (∃ t ps ac bd, X.get (H.next + 4) = some (.loop ⟨.done, some .ret, t, ps, ac, bd⟩)) ∧ X.get (H.next + 1) = some (.box (val i).cells.toList 56) ∧ X.get (H.next + 2) = some (.box [.bool true] 4) ∧ Grown H X
      | none => (∃ t ps ac bd, X.get (H.next + 4) = some (.loop ⟨.ready, none, t, ps, ac, bd⟩)) ∧ X.get (H.next + 1) = some (.box [.map none] 56) ∧ X.get (H.next + 2) = some (.box [.bool false] 4) ∧ Grown H X := hm
  cases hq : lastI p n with
    | none =>
      rw [hq] at hm
      obtain ⟨⟨t, ps, ac, bd, hK1⟩, q2, q3, hGX⟩ := (hm : _ ∧ _ ∧ _ ∧ _)
      have r2 : ∀ o, (X.set (H.next + 4) o).get (H.next + 1) = some (.box [.map none] 56) := fun o => by rw [get_set_ne (by omega)]; exact q2
      have r3 : ∀ o x, ((X.set (H.next + 4) o).set (H.next + 1) x).get (H.next + 2) = some (.box [.bool false] 4) := fun o x => by rw [get_set_ne (by omega), get_set_ne (by omega)]; exact q3
      have r4 : ∀ o x y, (((X.set (H.next + 4) o).set (H.next + 1) x).set (H.next + 2) y).get (H.next + 1) = some x := fun o x y => by rw [get_set_ne (by omega)]; exact get_set_same
      refine ⟨?X3, ?h3, ?g3⟩
      case h3 =>
        simp (config := { decide := true }) only [evalList_plain, evalList_nil, nd_store, ok_tmp, ok_const, cl_bool, opA_store, contA_skip, putT_none, aev_tmp, aev_const, rd_same, rd_ne, List.length_set, skipA_some, thenA_normal, inBlockA_normal, storeS_ptr, leaveR_ret, resA_nil, List.getElem?_cons_zero, resA_cell, cellRes_ptr, Option.bind_some, rangeEnd_M, rangeM_ready, pack_two, Option.map_some, ne_eq, Nat.reduceLT, Option.some.injEq, hl, hK1, storeV_flat, setCell_eq, r2, r3, r4, setCellO_box, vc_map, fl_map, vc_bool, fl_bool, info56, info4, cells56, cells4, Option.getD_none, List.set_cons_zero, get_set_same, agg56, agg4, loadV_flat, cell_eq, cellO_box]
        rfl
      case g3 => exact Grown.set2 (Grown.set2 (Grown.set2 hGX _ hK1 (by omega)) _ (r2 _) (by omega)) _ (r3 _ _) (by omega)
    | some i =>
      rw [hq] at hm
      obtain ⟨⟨t, ps, ac, bd, hK1⟩, q2, q3, hGX⟩ := (hm : _ ∧ _ ∧ _ ∧ _)
      obtain ⟨hin, _, _⟩ := lastI_some hq
      have hv3 := (hvc i hin).2.2
      have r2 : ∀ o, (X.set (H.next + 4) o).get (H.next + 1) = some (.box (val i).cells.toList 56) := fun o => by rw [get_set_ne (by omega)]; exact q2
      have r3 : ∀ o, (X.set (H.next + 4) o).get (H.next + 2) = some (.box [.bool true] 4) := fun o => by rw [get_set_ne (by omega)]; exact q3
      refine ⟨?X4, ?h4, ?g4⟩
      case h4 =>
        simp (config := { decide := true }) only [rd_same, rd_ne, List.length_set, thenA_ret, inBlockA_ret, leaveR_ret, resA_nil, List.getElem?_cons_zero, resA_cell, cellRes_ptr, Option.bind_some, rangeEnd_M, rangeM_ret, pack_two, Option.map_some, Option.isSome_some, ne_eq, Nat.reduceLT, Option.some.injEq, hl, hK1, r2, r3, hv3, List.toList_toArray, agg56, agg4, loadV_flat, cell_eq, cellO_box]
        rfl
      case g4 => exact Grown.set2 hGX _ hK1 (by omega)


theorem find28 {ext : CallT} (hx : ∀ f args H, f ≠ 22 → ext f args H = none) {H : AHeap} (hf : H.Fresh) {b n : Nat} {bl tl ts nx : Value} {cells : List Value} (hb : H.get b = some (.box [bl, tl, ts, nx] 55)) (ho : Own H 62 3 tl n cells) (hn : n < 1000000)
    {val : Nat → Value} (hval : ∀ H2, Grown H H2 → ∀ i, i < n → H2.loadV Try.prog 62 (addA (baseOf tl) (i * 3)) = some (val i)) (hvc : ∀ i, i < n → (val i).cells.size = 3 ∧ (val i).cells.toList.all flatV = true ∧ (.agg (val i).cells.toList.toArray : Value) = val i)
    {cf : FuncId} {caps : List Value} (hcf : enterB Try.prog cf = true) (p : Nat → Bool)
    (his : ∀ i H1, i < n → Grown H H1 → ∃ H2, theCall Try.prog ext cf (val i :: caps) H1 = some (.ret (.bool (p i)), H2) ∧ Grown H1 H2) :
    ∃ H', theCall Try.prog ext 28 [.pointer (some ⟨b, 1, none⟩), .func (.func cf) #[] caps.toArray] H = some (.ret (.tuple #[(match lastI p n with | some i => val i | none => .agg #[.string ⟨#[]⟩, .bool false, .int .i64 0]), .bool (lastI p n).isSome]), H') ∧ Grown H H' := by
  have c1 := ho.vcells
  have c2 := ho.flat
  obtain ⟨H1, e1⟩ : ∃ X, H.push (.box [.func (.func cf) #[] caps.toArray] 65) = X := ⟨_, rfl⟩
  have n1 : H1.next = H.next + 1 := by rw [← e1]; rfl
  have g1 : Grown H H1 := by rw [← e1]; exact Grown.push hf _
  have x1 : H1.get H.next = some (.box [.func (.func cf) #[] caps.toArray] 65) := by rw [← e1]; exact get_push_new
  obtain ⟨H2, e2⟩ : ∃ X, H1.push (.box [.string ⟨#[]⟩, .bool false, .int .i64 0] 62) = X := ⟨_, rfl⟩
  have n2 : H2.next = H.next + 2 := by rw [← e2, AHeap.push_next, n1]
  have g2 : Grown H1 H2 := by rw [← e2]; exact Grown.push g1.fresh _
  have x2 : H2.get (H.next + 1) = some (.box [.string ⟨#[]⟩, .bool false, .int .i64 0] 62) := by rw [← e2, ← n1]; exact get_push_new
  obtain ⟨H3, e3⟩ : ∃ X, H2.push (.box [.bool false] 4) = X := ⟨_, rfl⟩
  have n3 : H3.next = H.next + 3 := by rw [← e3, AHeap.push_next, n2]
  have g3 : Grown H2 H3 := by rw [← e3]; exact Grown.push g2.fresh _
  have x3 : H3.get (H.next + 2) = some (.box [.bool false] 4) := by rw [← e3, ← n2]; exact get_push_new
  have g03 : Grown H H3 := (g1.trans g2).trans g3
  have hb3 : H3.get b = some (.box [bl, tl, ts, nx] 55) := g03.has hf hb
  have ho3 : Own H3 62 3 tl n cells := g03.own hf ho
  have hbk := bk46 (ext := ext) hx ho3
  obtain ⟨H4, e4⟩ : ∃ X, H3.push (.box [tl] 51) = X := ⟨_, rfl⟩
  have n4 : H4.next = H.next + 4 := by rw [← e4, AHeap.push_next, n3]
  have g4 : Grown H3 H4 := by rw [← e4]; exact Grown.push g3.fresh _
  have x4 : H4.get (H.next + 3) = some (.box [tl] 51) := by rw [← e4, ← n3]; exact get_push_new
  rw [e4, n3] at hbk
  have y1 : H4.get H.next = some (.box [.func (.func cf) #[] caps.toArray] 65) := ((g2.trans g3).trans g4).has g1.fresh x1
  have y2 : H4.get (H.next + 1) = some (.box [.string ⟨#[]⟩, .bool false, .int .i64 0] 62) := (g3.trans g4).has g2.fresh x2
  have y3 : H4.get (H.next + 2) = some (.box [.bool false] 4) := g4.has g3.fresh x3
  have g04 : Grown H H4 := g03.trans g4
  refine theCall_goal (F := fun z => ∃ H', z = some (.ret (.tuple #[(match lastI p n with | some i => val i | none => .agg #[.string ⟨#[]⟩, .bool false, .int .i64 0]), .bool (lastI p n).isSome]), H') ∧ Grown H H') (hx _ _ _ (by decide)) Try.func28 (rs := [.cell 4 62, .cell 5 4]) rfl rfl rfl (by simp) fun tm hl hi => ?_
  replace hl : tm.length = 21 := hl
  have i0 := hi 0
  have i1 := hi 1
  simp only [List.getD_cons_zero, List.getD_cons_succ] at i0 i1
  simp (config := { decide := true }) only [theCode_seq, theCode_list, theCode_ret, theCode_block, evalList_plain, evalList_nil, nd_move, nd_alloc, nd_box, nd_load, nd_nilCheck, nd_fieldAddr, nd_call, ok_tmp, ok_func, opA_move, opA_load, opA_nilCheck, opA_fieldAddr, opA_call, opA_box, opA_alloc, contA_val, contA_enter, callA_ret, putT_some, aev_tmp, aev_func, rd_same, rd_ne, List.length_set, valA_some, thenA_normal, loadS_ptr, nilCheckS_ptr, fieldAddrS_eq, callS_func, List.getElem?_cons_zero, List.getElem?_cons_succ, theCode_rangeS, rangeS_cap, Option.map_some, ne_eq, Nat.reduceLT, Nat.add_zero, List.map_cons, List.map_nil, List.all_cons, List.all_nil, Bool.and_true, List.nil_append, List.append_nil, hl, i0, i1, vc_func, fl_func, vc_bool, vc_agg, info65, zf62, zf4, e1, e2, e3, n1, n2, n4, off53_0, agg51, loadV_flat, cell_eq, hb3, cellO_box, en46, en48, hbk]
  have hf5 : ∀ o, (H4.push o).Fresh := fun o => (AHeap.le_push H4 o).fresh g4.fresh
  have hK5 : ∀ o, (H4.push o).get (H.next + 4) = some o := fun o => by rw [← n4]; exact get_push_new
  have n5 : ∀ o, (H4.push o).next = H.next + 5 := fun o => by rw [AHeap.push_next, n4]
  have hlow : ∀ o Y, Grown (H4.push o) Y → ∀ j x, H4.get j = some x → Y.get j = some x := fun o Y hY j x hx => by
    rw [hY.get j (by have := get_lt g4.fresh hx; rw [n5]; omega), get_push_old (by have := get_lt g4.fresh hx; omega)]; exact hx
  generalize hT : theCall Try.prog ext 48 _ _ = T
  let PX : AHeap → Prop := fun X => match lastI p n with
      | some i => (∃ t ps ac bd, X.get (H.next + 4) = some (.loop ⟨.done, some .ret, t, ps, ac, bd⟩)) ∧ X.get (H.next + 1) = some (.box (val i).cells.toList 62) ∧ X.get (H.next + 2) = some (.box [.bool true] 4) ∧ Grown H X
      | none => (∃ t ps ac bd, X.get (H.next + 4) = some (.loop ⟨.ready, none, t, ps, ac, bd⟩)) ∧ X.get (H.next + 1) = some (.box [.string ⟨#[]⟩, .bool false, .int .i64 0] 62) ∧ X.get (H.next + 2) = some (.box [.bool false] 4) ∧ Grown H X
  obtain ⟨X, rfl, hm⟩ : ∃ X, T = some (.ret (.tuple #[]), X) ∧ PX X := by
   rw [← hT]
   refine bw48 hx (F := fun z => ∃ X, z = some (.ret (.tuple #[]), X) ∧ PX X) (bl := tl) (cells := cells) hn (val := val) p (Grown (H4.push (.loop _)))
    (fun i X => (∃ t ps ac bd, X.get (H.next + 4) = some (.loop ⟨.done, some .ret, t, ps, ac, bd⟩)) ∧ X.get (H.next + 1) = some (.box (val i).cells.toList 62) ∧ X.get (H.next + 2) = some (.box [.bool true] 4) ∧ Grown H X)
    ?hJ ?hr (Grown.refl (hf5 _)) ?hF
   case hJ =>
    intro Y hY
    have hGY : Grown H Y := (g04.push2 _).trans hY
    exact ⟨hlow _ _ hY _ _ x4, hGY.own hf ho, ⟨_, hY.has (hf5 _) (hK5 _), rfl⟩, hval Y hGY⟩
   case hr =>
    intro i Y hi hY
    have hGY : Grown H Y := (g04.push2 _).trans hY
    have hK1 := hY.has (hf5 _) (hK5 _)
    have q1 := hlow _ _ hY _ _ y1
    have q2 := hlow _ _ hY _ _ y2
    have q3 := hlow _ _ hY _ _ y3
    have hYn : H.next + 5 ≤ Y.next := by have := hY.next; rw [n5] at this; exact this
    have hv1 := (hvc i hi).1
    have hv2 := (hvc i hi).2.1
    have hv3 := (hvc i hi).2.2
    obtain ⟨Z, eZ⟩ : ∃ Z, (Y.push (.box [.string ⟨#[]⟩, .bool false, .int .i64 0] 62)).set Y.next (.box (val i).cells.toList 62) = Z := ⟨_, rfl⟩
    have gZ : Grown Y Z := by rw [← eZ]; exact (Grown.push hY.fresh _).set2 _ get_push_new (Nat.le_refl _)
    have zY : Z.get Y.next = some (.box (val i).cells.toList 62) := by rw [← eZ]; exact get_set_same
    have zN : Z.next = Y.next + 1 := by rw [← eZ]; rfl
    have st0 : (Y.push (.box [.string ⟨#[]⟩, .bool false, .int .i64 0] 62)).storeV Try.prog 62 ⟨Y.next, 0, none⟩ (val i) = some Z := by
      rw [storeV_box info62 get_push_new (by rw [cells62]; rfl) (by rw [hv1]; rfl) hv2, eZ]
    have hK2 := gZ.has hY.fresh hK1
    have hcl : ∀ o, ∃ X, theCall Try.prog ext cf (val i :: caps) (Z.set (H.next + 4) o) = some (.ret (.bool (p i)), X) ∧ Grown (Z.set (H.next + 4) o) X := fun o => his i _ hi ((hGY.trans gZ).set2 o hK2 (by omega))
    obtain ⟨G, hG1, hG2⟩ : ∃ G : AObj → AHeap, (∀ o, theCall Try.prog ext cf (val i :: caps) (Z.set (H.next + 4) o) = some (.ret (.bool (p i)), G o)) ∧ ∀ o, Grown (Z.set (H.next + 4) o) (G o) := ⟨fun o => (hcl o).choose, fun o => (hcl o).choose_spec.1, fun o => (hcl o).choose_spec.2⟩
    have lowG : ∀ o j x, j ≠ H.next + 4 → Z.get j = some x → (G o).get j = some x := fun o j x hj hx => by
      rw [(hG2 o).get j (by rw [AHeap.set_next]; exact get_lt gZ.fresh hx), get_set_ne hj]; exact hx
    have lowY : ∀ j x, Y.get j = some x → Z.get j = some x := fun j x hx => gZ.has hY.fresh hx
    have r1 : ∀ o, (Z.set (H.next + 4) o).get H.next = some (.box [.func (.func cf) #[] caps.toArray] 65) := fun o => by rw [get_set_ne (by omega)]; exact lowY _ _ q1
    have r2 : ∀ o, (G o).get (H.next + 4) = some o := fun o => by rw [(hG2 o).get _ (by rw [AHeap.set_next]; omega)]; exact get_set_same
    have r3 : ∀ o, (G o).get (H.next + 1) = some (.box [.string ⟨#[]⟩, .bool false, .int .i64 0] 62) := fun o => lowG o _ _ (by omega) (lowY _ _ q2)
    have r4 : ∀ o x, ((G o).set (H.next + 1) x).get (H.next + 2) = some (.box [.bool false] 4) := fun o x => by rw [get_set_ne (by omega)]; exact lowG o _ _ (by omega) (lowY _ _ q3)
    have r5 : ∀ o x y, (((G o).set (H.next + 1) x).set (H.next + 2) y).get (H.next + 4) = some o := fun o x y => by rw [get_set_ne (by omega), get_set_ne (by omega)]; exact r2 o
    have ld1 : ∀ o, (Z.set (H.next + 4) o).loadV Try.prog 62 ⟨Y.next, 0, none⟩ = some (val i) := fun o => by
      rw [loadV_box agg62 info62 (by rw [get_set_ne (by omega)]; exact zY) (by rw [cells62]; simp [hv1]), hv3]
    have ld2 : ∀ o, (G o).loadV Try.prog 62 ⟨Y.next, 0, none⟩ = some (val i) := fun o => by
      rw [loadV_box agg62 info62 (lowG o _ _ (by omega) zY) (by rw [cells62]; simp [hv1]), hv3]
    have st1 : ∀ o, (G o).storeV Try.prog 62 ⟨H.next + 1, 0, none⟩ (val i) = some ((G o).set (H.next + 1) (.box (val i).cells.toList 62)) := fun o => storeV_box info62 (r3 o) (by rw [cells62]; rfl) (by rw [hv1]; rfl) hv2
    have st2 : ∀ o x, ((G o).set (H.next + 1) x).storeV Try.prog 4 ⟨H.next + 2, 0, none⟩ (.bool true) = some (((G o).set (H.next + 1) x).set (H.next + 2) (.box [.bool true] 4)) := fun o x => by
      rw [storeV_box info4 (r4 o x) (by rw [cells4]; rfl) (by rw [vc_bool]; rfl) (by rw [vc_bool]; rfl), vc_bool]
    cases hp : p i with
    | false =>
      left
      refine ⟨rfl, ?X1, ?h1, ?j1⟩
      case h1 =>
        rw [theCall_round (hx _ _ _ size_ne) hK1]
        simp (config := { decide := true }) only [theCode_seq, theCode_list, theCode_skip, theCode_block, theCode_if, evalList_plain, evalList_nil, nd_alloc, nd_load, nd_store, nd_call, ok_tmp, opA_load, opA_store, opA_call, opA_alloc, contA_val, contA_skip, contA_enter, callA_ret, putT_some, putT_none, aev_tmp, rd_same, rd_ne, List.length_set, valA_some, skipA_some, thenA_normal, inBlockA_normal, boolOf_bool, loadS_ptr, storeS_ptr, callS_func, List.getElem?_cons_zero, roundA_M, roundM_ready, roundB_N, roundN_none, setAll_nil, setAll_cons, Option.map_some, Option.isSome_some, ne_eq, ↓reduceIte, Nat.reduceLT, Option.some.injEq, List.map_cons, List.map_nil, List.all_cons, List.all_nil, Bool.and_true, List.nil_append, List.cons_append, List.toList_toArray, hl, hK2, zf62, vc_agg, st0, agg65, loadV_flat, cell_eq, r1, cellO_box, ld1, hcf, hG1, hp, r2]
        rfl
      case j1 => exact (hY.trans gZ).back hK2 (hG2 _) (hK5 _) (by rw [n5]; omega)
    | true =>
      right
      refine ⟨rfl, ?X2, ?h2, ?j2⟩
      case h2 =>
        rw [theCall_round (hx _ _ _ size_ne) hK1]
        simp (config := { decide := true }) only [theCode_seq, theCode_list, theCode_ret, theCode_block, theCode_if, evalList_plain, evalList_nil, nd_alloc, nd_load, nd_store, nd_call, ok_tmp, ok_const, cl_bool, opA_load, opA_store, opA_call, opA_alloc, contA_val, contA_skip, contA_enter, callA_ret, putT_some, putT_none, aev_tmp, aev_const, rd_same, rd_ne, List.length_set, valA_some, skipA_some, thenA_normal, inBlockA_ret, boolOf_bool, loadS_ptr, storeS_ptr, callS_func, List.getElem?_cons_zero, roundA_M, roundM_ready, roundB_R, roundN_some, setAll_nil, setAll_cons, Option.map_some, Option.isSome_some, ne_eq, ↓reduceIte, Nat.reduceLT, Option.some.injEq, List.map_cons, List.map_nil, List.all_cons, List.all_nil, Bool.and_true, List.nil_append, List.cons_append, List.toList_toArray, hl, hK2, zf62, vc_agg, st0, agg65, loadV_flat, cell_eq, r1, cellO_box, ld1, ld2, hcf, hG1, hp, st1, st2, r5]
        rfl
      case j2 =>
        refine ⟨⟨_, _, _, _, get_set_same⟩, ?_, ?_, ?_⟩
        · rw [get_set_ne (by omega), get_set_ne (by omega)]; exact get_set_same
        · rw [get_set_ne (by omega)]; exact get_set_same
        · refine Grown.set2 (Grown.set2 (Grown.set2 (((hGY.trans gZ).set2 _ hK2 (by omega)).trans (hG2 _)) _ (r3 _) (by omega)) _ (r4 _ _) (by omega)) _ (r5 _ _ _) (by omega)
   case hF =>
    intro X hm
    refine ⟨X, rfl, ?_⟩
    show match lastI p n with
      | some i => (∃ t ps ac bd, X.get (H.next + 4) = some (.loop ⟨.done, some .ret, t, ps, ac, bd⟩)) ∧ X.get (H.next + 1) = some (.box (val i).cells.toList 62) ∧ X.get (H.next + 2) = some (.box [.bool true] 4) ∧ Grown H X
      | none => (∃ t ps ac bd, X.get (H.next + 4) = some (.loop ⟨.ready, none, t, ps, ac, bd⟩)) ∧ X.get (H.next + 1) = some (.box [.string ⟨#[]⟩, .bool false, .int .i64 0] 62) ∧ X.get (H.next + 2) = some (.box [.bool false] 4) ∧ Grown H X
    cases hq : lastI p n with
    | some i => rw [hq] at hm; exact hm
    | none =>
      rw [hq] at hm
      have hX : Grown (H4.push (.loop _)) X := hm
      exact ⟨⟨_, _, _, _, hX.has (hf5 _) (hK5 _)⟩, hlow _ _ hX _ _ y2, hlow _ _ hX _ _ y3, (g04.push2 _).trans hX⟩
  clear hT
  replace hm : match lastI p n with
      | some i => (∃ t ps ac bd, X.get (H.next + 4) = some (.loop ⟨.done, some .ret, t, ps, ac, bd⟩)) ∧ X.get (H.next + 1) = some (.box (val i).cells.toList 62) ∧ X.get (H.next + 2) = some (.box [.bool true] 4) ∧ Grown H X
      | none => (∃ t ps ac bd, X.get (H.next + 4) = some (.loop ⟨.ready, none, t, ps, ac, bd⟩)) ∧ X.get (H.next + 1) = some (.box [.string ⟨#[]⟩, .bool false, .int .i64 0] 62) ∧ X.get (H.next + 2) = some (.box [.bool false] 4) ∧ Grown H X := hm
  cases hq : lastI p n with
    | none =>
      rw [hq] at hm
      obtain ⟨⟨t, ps, ac, bd, hK1⟩, q2, q3, hGX⟩ := (hm : _ ∧ _ ∧ _ ∧ _)
      have hXn : H.next + 3 ≤ X.next := by have := get_lt hGX.fresh q3; omega
      have r2 : ∀ o y, ((X.set (H.next + 4) o).push y).get (H.next + 1) = some (.box [.string ⟨#[]⟩, .bool false, .int .i64 0] 62) := fun o y => by rw [get_push_old (by rw [AHeap.set_next]; omega), get_set_ne (by omega)]; exact q2
      have r3 : ∀ o y x, (((X.set (H.next + 4) o).push y).set (H.next + 1) x).get (H.next + 2) = some (.box [.bool false] 4) := fun o y x => by rw [get_set_ne (by omega), get_push_old (by rw [AHeap.set_next]; omega), get_set_ne (by omega)]; exact q3
      have ld1 : ∀ o, ((X.set (H.next + 4) o).push (.box [.string ⟨#[]⟩, .bool false, .int .i64 0] 62)).loadV Try.prog 62 ⟨X.next, 0, none⟩ = some (.agg #[.string ⟨#[]⟩, .bool false, .int .i64 0]) := fun o => by
        rw [loadV_box agg62 info62 (cs := [.string ⟨#[]⟩, .bool false, .int .i64 0]) (e := 62) (by exact get_push_new) (by rw [cells62]; rfl)]
      have st1 : ∀ o y, ((X.set (H.next + 4) o).push y).storeV Try.prog 62 ⟨H.next + 1, 0, none⟩ (.agg #[.string ⟨#[]⟩, .bool false, .int .i64 0]) = some (((X.set (H.next + 4) o).push y).set (H.next + 1) (.box [.string ⟨#[]⟩, .bool false, .int .i64 0] 62)) := fun o y => by
        rw [storeV_box info62 (r2 o y) (by rw [cells62]; rfl) (by rw [vc_agg]; rfl) (by rw [vc_agg]; simp [fl_string, fl_bool, fl_int]), vc_agg]
      have st2 : ∀ o y x, (((X.set (H.next + 4) o).push y).set (H.next + 1) x).storeV Try.prog 4 ⟨H.next + 2, 0, none⟩ (.bool false) = some ((((X.set (H.next + 4) o).push y).set (H.next + 1) x).set (H.next + 2) (.box [.bool false] 4)) := fun o y x => by
        rw [storeV_box info4 (r3 o y x) (by rw [cells4]; rfl) (by rw [vc_bool]; rfl) (by rw [vc_bool]; rfl), vc_bool]
      have ld3 : ∀ o y z, ((((X.set (H.next + 4) o).push y).set (H.next + 1) (.box [.string ⟨#[]⟩, .bool false, .int .i64 0] 62)).set (H.next + 2) z).loadV Try.prog 62 ⟨H.next + 1, 0, none⟩ = some (.agg #[.string ⟨#[]⟩, .bool false, .int .i64 0]) := fun o y z => by
        rw [loadV_box agg62 info62 (cs := [.string ⟨#[]⟩, .bool false, .int .i64 0]) (e := 62) (by rw [get_set_ne (by omega)]; exact get_set_same) (by rw [cells62]; rfl)]
      refine ⟨?X3, ?h3, ?g3⟩
      case h3 =>
        simp (config := { decide := true }) only [evalList_plain, evalList_nil, nd_store, ok_tmp, ok_const, cl_bool, opA_store, contA_val, contA_skip, putT_some, putT_none, aev_tmp, aev_const, rd_same, rd_ne, List.length_set, valA_some, skipA_some, thenA_normal, inBlockA_normal, loadS_ptr, storeS_ptr, leaveR_ret, resA_nil, List.getElem?_cons_zero, resA_cell, cellRes_ptr, Option.bind_some, rangeEnd_M, rangeM_ready, pack_two, Option.map_some, ne_eq, Nat.reduceLT, Option.some.injEq, hl, hK1, AHeap.set_next, ld1, st1, st2, ld3, get_set_same, agg4, loadV_flat, cell_eq, cellO_box, Option.getD_none]
        rfl
      case g3 => exact Grown.set2 (Grown.set2 ((Grown.set2 hGX _ hK1 (by omega)).push2 _) _ (r2 _ _) (by omega)) _ (r3 _ _ _) (by omega)
    | some i =>
      rw [hq] at hm
      obtain ⟨⟨t, ps, ac, bd, hK1⟩, q2, q3, hGX⟩ := (hm : _ ∧ _ ∧ _ ∧ _)
      obtain ⟨hin, _, _⟩ := lastI_some hq
      have hv3 := (hvc i hin).2.2
      have r2 : ∀ o, (X.set (H.next + 4) o).get (H.next + 1) = some (.box (val i).cells.toList 62) := fun o => by rw [get_set_ne (by omega)]; exact q2
      have r3 : ∀ o, (X.set (H.next + 4) o).get (H.next + 2) = some (.box [.bool true] 4) := fun o => by rw [get_set_ne (by omega)]; exact q3
      have hv1 := (hvc i hin).1
      have ld1 : ∀ o, (X.set (H.next + 4) o).loadV Try.prog 62 ⟨H.next + 1, 0, none⟩ = some (val i) := fun o => by
        rw [loadV_box agg62 info62 (r2 o) (by rw [cells62]; simp [hv1]), hv3]
      refine ⟨?X4, ?h4, ?g4⟩
      case h4 =>
        simp (config := { decide := true }) only [rd_same, rd_ne, List.length_set, thenA_ret, inBlockA_ret, leaveR_ret, resA_nil, List.getElem?_cons_zero, resA_cell, cellRes_ptr, Option.bind_some, rangeEnd_M, rangeM_ret, pack_two, Option.map_some, Option.isSome_some, ne_eq, Nat.reduceLT, Option.some.injEq, hl, hK1, r3, ld1, agg4, loadV_flat, cell_eq, cellO_box]
        rfl
      case g4 => exact Grown.set2 hGX _ hK1 (by omega)

end Go.Proofs.Ytnjoaffnfjlcaaa
