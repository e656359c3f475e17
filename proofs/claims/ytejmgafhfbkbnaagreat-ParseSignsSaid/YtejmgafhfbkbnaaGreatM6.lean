/-
  Joined by program out of Facts, FTab, PTab, PS1, PS2, PS3.
-/
import Derived.Test.YtejmgafhfbkbnaaGreatM3
import Derived.Test.YtejmgafhfbkbnaaGreatChecked
import Derived.KernelRfl
import Derived.Test.YtejmgafhfbkbnaaGreatM5
namespace Go.Proofs.YtejmgafhfbkbnaaGreat
namespace B
open Go Go.Proofs

theorem inf0 : Tables.info? Tryz.prog.toTables 0 = some Tryz.t0 := info_of Tryz.types_size (by decide) Tryz.type0
theorem info0 : (Tables.info? Tryz.prog.toTables 0).isSome = true := isSome_of inf0
theorem cells0 : Program.cellsOf Tryz.prog 0 = 1 := cells_of inf0 rfl
theorem inf1 : Tables.info? Tryz.prog.toTables 1 = some Tryz.t1 := info_of Tryz.types_size (by decide) Tryz.type1
theorem info1 : (Tables.info? Tryz.prog.toTables 1).isSome = true := isSome_of inf1
theorem cells1 : Program.cellsOf Tryz.prog 1 = 1 := cells_of inf1 rfl
theorem agg1 : aggT Tryz.prog 1 = some false := agg_of Tryz.underlying1 rfl
theorem inf2 : Tables.info? Tryz.prog.toTables 2 = some Tryz.t2 := info_of Tryz.types_size (by decide) Tryz.type2
theorem info2 : (Tables.info? Tryz.prog.toTables 2).isSome = true := isSome_of inf2
theorem cells2 : Program.cellsOf Tryz.prog 2 = 1 := cells_of inf2 rfl
theorem agg2 : aggT Tryz.prog 2 = some false := agg_of Tryz.underlying2 rfl
theorem inf3 : Tables.info? Tryz.prog.toTables 3 = some Tryz.t3 := info_of Tryz.types_size (by decide) Tryz.type3
theorem info3 : (Tables.info? Tryz.prog.toTables 3).isSome = true := isSome_of inf3
theorem cells3 : Program.cellsOf Tryz.prog 3 = 1 := cells_of inf3 rfl
theorem agg3 : aggT Tryz.prog 3 = some false := agg_of Tryz.underlying3 rfl
theorem inf4 : Tables.info? Tryz.prog.toTables 4 = some Tryz.t4 := info_of Tryz.types_size (by decide) Tryz.type4
theorem info4 : (Tables.info? Tryz.prog.toTables 4).isSome = true := isSome_of inf4
theorem cells4 : Program.cellsOf Tryz.prog 4 = 1 := cells_of inf4 rfl
theorem agg4 : aggT Tryz.prog 4 = some false := agg_of Tryz.underlying4 rfl
theorem ub4 : Program.underlying Tryz.prog 4 = some .bool := und_of Tryz.underlying4
theorem inf5 : Tables.info? Tryz.prog.toTables 5 = some Tryz.t5 := info_of Tryz.types_size (by decide) Tryz.type5
theorem info5 : (Tables.info? Tryz.prog.toTables 5).isSome = true := isSome_of inf5
theorem cells5 : Program.cellsOf Tryz.prog 5 = 1 := cells_of inf5 rfl
theorem agg5 : aggT Tryz.prog 5 = some false := agg_of Tryz.underlying5 rfl
theorem inf6 : Tables.info? Tryz.prog.toTables 6 = some Tryz.t6 := info_of Tryz.types_size (by decide) Tryz.type6
theorem info6 : (Tables.info? Tryz.prog.toTables 6).isSome = true := isSome_of inf6
theorem cells6 : Program.cellsOf Tryz.prog 6 = 1 := cells_of inf6 rfl
theorem agg6 : aggT Tryz.prog 6 = some false := agg_of Tryz.underlying6 rfl
theorem inf7 : Tables.info? Tryz.prog.toTables 7 = some Tryz.t7 := info_of Tryz.types_size (by decide) Tryz.type7
theorem info7 : (Tables.info? Tryz.prog.toTables 7).isSome = true := isSome_of inf7
theorem cells7 : Program.cellsOf Tryz.prog 7 = 4 := cells_of inf7 rfl
theorem agg7 : aggT Tryz.prog 7 = some true := agg_of Tryz.underlying7 rfl
theorem inf8 : Tables.info? Tryz.prog.toTables 8 = some Tryz.t8 := info_of Tryz.types_size (by decide) Tryz.type8
theorem info8 : (Tables.info? Tryz.prog.toTables 8).isSome = true := isSome_of inf8
theorem cells8 : Program.cellsOf Tryz.prog 8 = 4 := cells_of inf8 rfl
theorem agg8 : aggT Tryz.prog 8 = some true := agg_of Tryz.underlying8 rfl
theorem inf9 : Tables.info? Tryz.prog.toTables 9 = some Tryz.t9 := info_of Tryz.types_size (by decide) Tryz.type9
theorem info9 : (Tables.info? Tryz.prog.toTables 9).isSome = true := isSome_of inf9
theorem cells9 : Program.cellsOf Tryz.prog 9 = 1 := cells_of inf9 rfl
theorem agg9 : aggT Tryz.prog 9 = some false := agg_of Tryz.underlying9 rfl
theorem us9 : Program.underlying Tryz.prog 9 = some .string := und_of Tryz.underlying9
theorem inf10 : Tables.info? Tryz.prog.toTables 10 = some Tryz.t10 := info_of Tryz.types_size (by decide) Tryz.type10
theorem info10 : (Tables.info? Tryz.prog.toTables 10).isSome = true := isSome_of inf10
theorem cells10 : Program.cellsOf Tryz.prog 10 = 1 := cells_of inf10 rfl
theorem agg10 : aggT Tryz.prog 10 = some false := agg_of Tryz.underlying10 rfl
theorem us10 : Program.underlying Tryz.prog 10 = some .string := und_of Tryz.underlying10
theorem inf11 : Tables.info? Tryz.prog.toTables 11 = some Tryz.t11 := info_of Tryz.types_size (by decide) Tryz.type11
theorem info11 : (Tables.info? Tryz.prog.toTables 11).isSome = true := isSome_of inf11
theorem cells11 : Program.cellsOf Tryz.prog 11 = 1 := cells_of inf11 rfl
theorem agg11 : aggT Tryz.prog 11 = some false := agg_of Tryz.underlying11 rfl
theorem us11 : Program.underlying Tryz.prog 11 = some .string := und_of Tryz.underlying11
theorem inf12 : Tables.info? Tryz.prog.toTables 12 = some Tryz.t12 := info_of Tryz.types_size (by decide) Tryz.type12
theorem info12 : (Tables.info? Tryz.prog.toTables 12).isSome = true := isSome_of inf12
theorem cells12 : Program.cellsOf Tryz.prog 12 = 1 := cells_of inf12 rfl
theorem agg12 : aggT Tryz.prog 12 = some false := agg_of Tryz.underlying12 rfl
theorem inf13 : Tables.info? Tryz.prog.toTables 13 = some Tryz.t13 := info_of Tryz.types_size (by decide) Tryz.type13
theorem info13 : (Tables.info? Tryz.prog.toTables 13).isSome = true := isSome_of inf13
theorem cells13 : Program.cellsOf Tryz.prog 13 = 2 := cells_of inf13 rfl
theorem agg13 : aggT Tryz.prog 13 = some true := agg_of Tryz.underlying13 rfl
theorem inf14 : Tables.info? Tryz.prog.toTables 14 = some Tryz.t14 := info_of Tryz.types_size (by decide) Tryz.type14
theorem info14 : (Tables.info? Tryz.prog.toTables 14).isSome = true := isSome_of inf14
theorem cells14 : Program.cellsOf Tryz.prog 14 = 2 := cells_of inf14 rfl
theorem agg14 : aggT Tryz.prog 14 = some true := agg_of Tryz.underlying14 rfl
theorem inf15 : Tables.info? Tryz.prog.toTables 15 = some Tryz.t15 := info_of Tryz.types_size (by decide) Tryz.type15
theorem info15 : (Tables.info? Tryz.prog.toTables 15).isSome = true := isSome_of inf15
theorem cells15 : Program.cellsOf Tryz.prog 15 = 1 := cells_of inf15 rfl
theorem agg15 : aggT Tryz.prog 15 = some false := agg_of Tryz.underlying15 rfl
theorem isp15 : isPtr Tryz.prog 15 = true := isPtr_of Tryz.underlying15
theorem inf16 : Tables.info? Tryz.prog.toTables 16 = some Tryz.t16 := info_of Tryz.types_size (by decide) Tryz.type16
theorem info16 : (Tables.info? Tryz.prog.toTables 16).isSome = true := isSome_of inf16
theorem cells16 : Program.cellsOf Tryz.prog 16 = 1 := cells_of inf16 rfl
theorem agg16 : aggT Tryz.prog 16 = some false := agg_of Tryz.underlying16 rfl
theorem isp16 : isPtr Tryz.prog 16 = true := isPtr_of Tryz.underlying16
theorem inf17 : Tables.info? Tryz.prog.toTables 17 = some Tryz.t17 := info_of Tryz.types_size (by decide) Tryz.type17
theorem info17 : (Tables.info? Tryz.prog.toTables 17).isSome = true := isSome_of inf17
theorem cells17 : Program.cellsOf Tryz.prog 17 = 1 := cells_of inf17 rfl
theorem agg17 : aggT Tryz.prog 17 = some false := agg_of Tryz.underlying17 rfl
theorem isp17 : isPtr Tryz.prog 17 = true := isPtr_of Tryz.underlying17
theorem inf18 : Tables.info? Tryz.prog.toTables 18 = some Tryz.t18 := info_of Tryz.types_size (by decide) Tryz.type18
theorem info18 : (Tables.info? Tryz.prog.toTables 18).isSome = true := isSome_of inf18
theorem cells18 : Program.cellsOf Tryz.prog 18 = 1 := cells_of inf18 rfl
theorem agg18 : aggT Tryz.prog 18 = some true := agg_of Tryz.underlying18 rfl
theorem inf19 : Tables.info? Tryz.prog.toTables 19 = some Tryz.t19 := info_of Tryz.types_size (by decide) Tryz.type19
theorem info19 : (Tables.info? Tryz.prog.toTables 19).isSome = true := isSome_of inf19
theorem cells19 : Program.cellsOf Tryz.prog 19 = 1 := cells_of inf19 rfl
theorem agg19 : aggT Tryz.prog 19 = some true := agg_of Tryz.underlying19 rfl
theorem inf20 : Tables.info? Tryz.prog.toTables 20 = some Tryz.t20 := info_of Tryz.types_size (by decide) Tryz.type20
theorem info20 : (Tables.info? Tryz.prog.toTables 20).isSome = true := isSome_of inf20
theorem cells20 : Program.cellsOf Tryz.prog 20 = 1 := cells_of inf20 rfl
theorem agg20 : aggT Tryz.prog 20 = some false := agg_of Tryz.underlying20 rfl
theorem inf21 : Tables.info? Tryz.prog.toTables 21 = some Tryz.t21 := info_of Tryz.types_size (by decide) Tryz.type21
theorem info21 : (Tables.info? Tryz.prog.toTables 21).isSome = true := isSome_of inf21
theorem cells21 : Program.cellsOf Tryz.prog 21 = 1 := cells_of inf21 rfl
theorem agg21 : aggT Tryz.prog 21 = some false := agg_of Tryz.underlying21 rfl
theorem inf22 : Tables.info? Tryz.prog.toTables 22 = some Tryz.t22 := info_of Tryz.types_size (by decide) Tryz.type22
theorem info22 : (Tables.info? Tryz.prog.toTables 22).isSome = true := isSome_of inf22
theorem cells22 : Program.cellsOf Tryz.prog 22 = 1 := cells_of inf22 rfl
theorem agg22 : aggT Tryz.prog 22 = some false := agg_of Tryz.underlying22 rfl
theorem inf23 : Tables.info? Tryz.prog.toTables 23 = some Tryz.t23 := info_of Tryz.types_size (by decide) Tryz.type23
theorem info23 : (Tables.info? Tryz.prog.toTables 23).isSome = true := isSome_of inf23
theorem cells23 : Program.cellsOf Tryz.prog 23 = 1 := cells_of inf23 rfl
theorem agg23 : aggT Tryz.prog 23 = some false := agg_of Tryz.underlying23 rfl
theorem isl23 : isSlice Tryz.prog 23 = true := isSlice_of Tryz.underlying23
theorem inf24 : Tables.info? Tryz.prog.toTables 24 = some Tryz.t24 := info_of Tryz.types_size (by decide) Tryz.type24
theorem info24 : (Tables.info? Tryz.prog.toTables 24).isSome = true := isSome_of inf24
theorem cells24 : Program.cellsOf Tryz.prog 24 = 5 := cells_of inf24 rfl
theorem agg24 : aggT Tryz.prog 24 = some true := agg_of Tryz.underlying24 rfl
theorem inf25 : Tables.info? Tryz.prog.toTables 25 = some Tryz.t25 := info_of Tryz.types_size (by decide) Tryz.type25
theorem info25 : (Tables.info? Tryz.prog.toTables 25).isSome = true := isSome_of inf25
theorem cells25 : Program.cellsOf Tryz.prog 25 = 5 := cells_of inf25 rfl
theorem agg25 : aggT Tryz.prog 25 = some true := agg_of Tryz.underlying25 rfl
theorem inf26 : Tables.info? Tryz.prog.toTables 26 = some Tryz.t26 := info_of Tryz.types_size (by decide) Tryz.type26
theorem info26 : (Tables.info? Tryz.prog.toTables 26).isSome = true := isSome_of inf26
theorem cells26 : Program.cellsOf Tryz.prog 26 = 1 := cells_of inf26 rfl
theorem agg26 : aggT Tryz.prog 26 = some false := agg_of Tryz.underlying26 rfl
theorem inf27 : Tables.info? Tryz.prog.toTables 27 = some Tryz.t27 := info_of Tryz.types_size (by decide) Tryz.type27
theorem info27 : (Tables.info? Tryz.prog.toTables 27).isSome = true := isSome_of inf27
theorem cells27 : Program.cellsOf Tryz.prog 27 = 1 := cells_of inf27 rfl
theorem agg27 : aggT Tryz.prog 27 = some false := agg_of Tryz.underlying27 rfl
theorem inf28 : Tables.info? Tryz.prog.toTables 28 = some Tryz.t28 := info_of Tryz.types_size (by decide) Tryz.type28
theorem info28 : (Tables.info? Tryz.prog.toTables 28).isSome = true := isSome_of inf28
theorem cells28 : Program.cellsOf Tryz.prog 28 = 1 := cells_of inf28 rfl
theorem agg28 : aggT Tryz.prog 28 = some false := agg_of Tryz.underlying28 rfl
theorem inf29 : Tables.info? Tryz.prog.toTables 29 = some Tryz.t29 := info_of Tryz.types_size (by decide) Tryz.type29
theorem info29 : (Tables.info? Tryz.prog.toTables 29).isSome = true := isSome_of inf29
theorem cells29 : Program.cellsOf Tryz.prog 29 = 1 := cells_of inf29 rfl
theorem agg29 : aggT Tryz.prog 29 = some false := agg_of Tryz.underlying29 rfl
theorem inf30 : Tables.info? Tryz.prog.toTables 30 = some Tryz.t30 := info_of Tryz.types_size (by decide) Tryz.type30
theorem info30 : (Tables.info? Tryz.prog.toTables 30).isSome = true := isSome_of inf30
theorem cells30 : Program.cellsOf Tryz.prog 30 = 1 := cells_of inf30 rfl
theorem agg30 : aggT Tryz.prog 30 = some false := agg_of Tryz.underlying30 rfl
theorem inf31 : Tables.info? Tryz.prog.toTables 31 = some Tryz.t31 := info_of Tryz.types_size (by decide) Tryz.type31
theorem info31 : (Tables.info? Tryz.prog.toTables 31).isSome = true := isSome_of inf31
theorem cells31 : Program.cellsOf Tryz.prog 31 = 1 := cells_of inf31 rfl
theorem agg31 : aggT Tryz.prog 31 = some false := agg_of Tryz.underlying31 rfl
theorem inf32 : Tables.info? Tryz.prog.toTables 32 = some Tryz.t32 := info_of Tryz.types_size (by decide) Tryz.type32
theorem info32 : (Tables.info? Tryz.prog.toTables 32).isSome = true := isSome_of inf32
theorem cells32 : Program.cellsOf Tryz.prog 32 = 1 := cells_of inf32 rfl
theorem agg32 : aggT Tryz.prog 32 = some false := agg_of Tryz.underlying32 rfl
theorem inf33 : Tables.info? Tryz.prog.toTables 33 = some Tryz.t33 := info_of Tryz.types_size (by decide) Tryz.type33
theorem info33 : (Tables.info? Tryz.prog.toTables 33).isSome = true := isSome_of inf33
theorem cells33 : Program.cellsOf Tryz.prog 33 = 1 := cells_of inf33 rfl
theorem agg33 : aggT Tryz.prog 33 = some false := agg_of Tryz.underlying33 rfl
theorem isl33 : isSlice Tryz.prog 33 = true := isSlice_of Tryz.underlying33
theorem inf34 : Tables.info? Tryz.prog.toTables 34 = some Tryz.t34 := info_of Tryz.types_size (by decide) Tryz.type34
theorem info34 : (Tables.info? Tryz.prog.toTables 34).isSome = true := isSome_of inf34
theorem cells34 : Program.cellsOf Tryz.prog 34 = 1 := cells_of inf34 rfl
theorem agg34 : aggT Tryz.prog 34 = some false := agg_of Tryz.underlying34 rfl
theorem isl34 : isSlice Tryz.prog 34 = true := isSlice_of Tryz.underlying34
theorem inf35 : Tables.info? Tryz.prog.toTables 35 = some Tryz.t35 := info_of Tryz.types_size (by decide) Tryz.type35
theorem info35 : (Tables.info? Tryz.prog.toTables 35).isSome = true := isSome_of inf35
theorem cells35 : Program.cellsOf Tryz.prog 35 = 1 := cells_of inf35 rfl
theorem agg35 : aggT Tryz.prog 35 = some false := agg_of Tryz.underlying35 rfl
theorem inf36 : Tables.info? Tryz.prog.toTables 36 = some Tryz.t36 := info_of Tryz.types_size (by decide) Tryz.type36
theorem info36 : (Tables.info? Tryz.prog.toTables 36).isSome = true := isSome_of inf36
theorem cells36 : Program.cellsOf Tryz.prog 36 = 1 := cells_of inf36 rfl
theorem inf37 : Tables.info? Tryz.prog.toTables 37 = some Tryz.t37 := info_of Tryz.types_size (by decide) Tryz.type37
theorem info37 : (Tables.info? Tryz.prog.toTables 37).isSome = true := isSome_of inf37
theorem cells37 : Program.cellsOf Tryz.prog 37 = 1 := cells_of inf37 rfl
theorem agg37 : aggT Tryz.prog 37 = some false := agg_of Tryz.underlying37 rfl
theorem inf38 : Tables.info? Tryz.prog.toTables 38 = some Tryz.t38 := info_of Tryz.types_size (by decide) Tryz.type38
theorem info38 : (Tables.info? Tryz.prog.toTables 38).isSome = true := isSome_of inf38
theorem cells38 : Program.cellsOf Tryz.prog 38 = 1 := cells_of inf38 rfl
theorem agg38 : aggT Tryz.prog 38 = some false := agg_of Tryz.underlying38 rfl
theorem inf39 : Tables.info? Tryz.prog.toTables 39 = some Tryz.t39 := info_of Tryz.types_size (by decide) Tryz.type39
theorem info39 : (Tables.info? Tryz.prog.toTables 39).isSome = true := isSome_of inf39
theorem cells39 : Program.cellsOf Tryz.prog 39 = 1 := cells_of inf39 rfl
theorem agg39 : aggT Tryz.prog 39 = some false := agg_of Tryz.underlying39 rfl
theorem inf40 : Tables.info? Tryz.prog.toTables 40 = some Tryz.t40 := info_of Tryz.types_size (by decide) Tryz.type40
theorem info40 : (Tables.info? Tryz.prog.toTables 40).isSome = true := isSome_of inf40
theorem cells40 : Program.cellsOf Tryz.prog 40 = 1 := cells_of inf40 rfl
theorem agg40 : aggT Tryz.prog 40 = some false := agg_of Tryz.underlying40 rfl
theorem inf41 : Tables.info? Tryz.prog.toTables 41 = some Tryz.t41 := info_of Tryz.types_size (by decide) Tryz.type41
theorem info41 : (Tables.info? Tryz.prog.toTables 41).isSome = true := isSome_of inf41
theorem cells41 : Program.cellsOf Tryz.prog 41 = 1 := cells_of inf41 rfl
theorem agg41 : aggT Tryz.prog 41 = some false := agg_of Tryz.underlying41 rfl
theorem inf42 : Tables.info? Tryz.prog.toTables 42 = some Tryz.t42 := info_of Tryz.types_size (by decide) Tryz.type42
theorem info42 : (Tables.info? Tryz.prog.toTables 42).isSome = true := isSome_of inf42
theorem cells42 : Program.cellsOf Tryz.prog 42 = 1 := cells_of inf42 rfl
theorem agg42 : aggT Tryz.prog 42 = some false := agg_of Tryz.underlying42 rfl
theorem inf43 : Tables.info? Tryz.prog.toTables 43 = some Tryz.t43 := info_of Tryz.types_size (by decide) Tryz.type43
theorem info43 : (Tables.info? Tryz.prog.toTables 43).isSome = true := isSome_of inf43
theorem cells43 : Program.cellsOf Tryz.prog 43 = 1 := cells_of inf43 rfl
theorem agg43 : aggT Tryz.prog 43 = some false := agg_of Tryz.underlying43 rfl
theorem inf44 : Tables.info? Tryz.prog.toTables 44 = some Tryz.t44 := info_of Tryz.types_size (by decide) Tryz.type44
theorem info44 : (Tables.info? Tryz.prog.toTables 44).isSome = true := isSome_of inf44
theorem cells44 : Program.cellsOf Tryz.prog 44 = 1 := cells_of inf44 rfl
theorem agg44 : aggT Tryz.prog 44 = some false := agg_of Tryz.underlying44 rfl
theorem isp44 : isPtr Tryz.prog 44 = true := isPtr_of Tryz.underlying44
theorem inf45 : Tables.info? Tryz.prog.toTables 45 = some Tryz.t45 := info_of Tryz.types_size (by decide) Tryz.type45
theorem info45 : (Tables.info? Tryz.prog.toTables 45).isSome = true := isSome_of inf45
theorem cells45 : Program.cellsOf Tryz.prog 45 = 1 := cells_of inf45 rfl
theorem agg45 : aggT Tryz.prog 45 = some false := agg_of Tryz.underlying45 rfl
theorem inf46 : Tables.info? Tryz.prog.toTables 46 = some Tryz.t46 := info_of Tryz.types_size (by decide) Tryz.type46
theorem info46 : (Tables.info? Tryz.prog.toTables 46).isSome = true := isSome_of inf46
theorem cells46 : Program.cellsOf Tryz.prog 46 = 1 := cells_of inf46 rfl
theorem agg46 : aggT Tryz.prog 46 = some false := agg_of Tryz.underlying46 rfl
theorem inf47 : Tables.info? Tryz.prog.toTables 47 = some Tryz.t47 := info_of Tryz.types_size (by decide) Tryz.type47
theorem info47 : (Tables.info? Tryz.prog.toTables 47).isSome = true := isSome_of inf47
theorem cells47 : Program.cellsOf Tryz.prog 47 = 1 := cells_of inf47 rfl
theorem agg47 : aggT Tryz.prog 47 = some false := agg_of Tryz.underlying47 rfl
theorem inf48 : Tables.info? Tryz.prog.toTables 48 = some Tryz.t48 := info_of Tryz.types_size (by decide) Tryz.type48
theorem info48 : (Tables.info? Tryz.prog.toTables 48).isSome = true := isSome_of inf48
theorem cells48 : Program.cellsOf Tryz.prog 48 = 1 := cells_of inf48 rfl
theorem agg48 : aggT Tryz.prog 48 = some false := agg_of Tryz.underlying48 rfl
theorem inf49 : Tables.info? Tryz.prog.toTables 49 = some Tryz.t49 := info_of Tryz.types_size (by decide) Tryz.type49
theorem info49 : (Tables.info? Tryz.prog.toTables 49).isSome = true := isSome_of inf49
theorem cells49 : Program.cellsOf Tryz.prog 49 = 1 := cells_of inf49 rfl
theorem agg49 : aggT Tryz.prog 49 = some false := agg_of Tryz.underlying49 rfl
theorem inf50 : Tables.info? Tryz.prog.toTables 50 = some Tryz.t50 := info_of Tryz.types_size (by decide) Tryz.type50
theorem info50 : (Tables.info? Tryz.prog.toTables 50).isSome = true := isSome_of inf50
theorem cells50 : Program.cellsOf Tryz.prog 50 = 1 := cells_of inf50 rfl
theorem agg50 : aggT Tryz.prog 50 = some false := agg_of Tryz.underlying50 rfl
theorem inf51 : Tables.info? Tryz.prog.toTables 51 = some Tryz.t51 := info_of Tryz.types_size (by decide) Tryz.type51
theorem info51 : (Tables.info? Tryz.prog.toTables 51).isSome = true := isSome_of inf51
theorem cells51 : Program.cellsOf Tryz.prog 51 = 1 := cells_of inf51 rfl
theorem inf52 : Tables.info? Tryz.prog.toTables 52 = some Tryz.t52 := info_of Tryz.types_size (by decide) Tryz.type52
theorem info52 : (Tables.info? Tryz.prog.toTables 52).isSome = true := isSome_of inf52
theorem cells52 : Program.cellsOf Tryz.prog 52 = 1 := cells_of inf52 rfl
theorem agg52 : aggT Tryz.prog 52 = some false := agg_of Tryz.underlying52 rfl
theorem inf53 : Tables.info? Tryz.prog.toTables 53 = some Tryz.t53 := info_of Tryz.types_size (by decide) Tryz.type53
theorem info53 : (Tables.info? Tryz.prog.toTables 53).isSome = true := isSome_of inf53
theorem cells53 : Program.cellsOf Tryz.prog 53 = 1 := cells_of inf53 rfl
theorem agg53 : aggT Tryz.prog 53 = some false := agg_of Tryz.underlying53 rfl
theorem inf54 : Tables.info? Tryz.prog.toTables 54 = some Tryz.t54 := info_of Tryz.types_size (by decide) Tryz.type54
theorem info54 : (Tables.info? Tryz.prog.toTables 54).isSome = true := isSome_of inf54
theorem cells54 : Program.cellsOf Tryz.prog 54 = 1 := cells_of inf54 rfl
theorem agg54 : aggT Tryz.prog 54 = some false := agg_of Tryz.underlying54 rfl
theorem inf55 : Tables.info? Tryz.prog.toTables 55 = some Tryz.t55 := info_of Tryz.types_size (by decide) Tryz.type55
theorem info55 : (Tables.info? Tryz.prog.toTables 55).isSome = true := isSome_of inf55
theorem cells55 : Program.cellsOf Tryz.prog 55 = 1 := cells_of inf55 rfl
theorem agg55 : aggT Tryz.prog 55 = some false := agg_of Tryz.underlying55 rfl
theorem inf56 : Tables.info? Tryz.prog.toTables 56 = some Tryz.t56 := info_of Tryz.types_size (by decide) Tryz.type56
theorem info56 : (Tables.info? Tryz.prog.toTables 56).isSome = true := isSome_of inf56
theorem cells56 : Program.cellsOf Tryz.prog 56 = 1 := cells_of inf56 rfl
theorem agg56 : aggT Tryz.prog 56 = some false := agg_of Tryz.underlying56 rfl
theorem inf57 : Tables.info? Tryz.prog.toTables 57 = some Tryz.t57 := info_of Tryz.types_size (by decide) Tryz.type57
theorem info57 : (Tables.info? Tryz.prog.toTables 57).isSome = true := isSome_of inf57
theorem cells57 : Program.cellsOf Tryz.prog 57 = 1 := cells_of inf57 rfl
theorem agg57 : aggT Tryz.prog 57 = some false := agg_of Tryz.underlying57 rfl
theorem inf58 : Tables.info? Tryz.prog.toTables 58 = some Tryz.t58 := info_of Tryz.types_size (by decide) Tryz.type58
theorem info58 : (Tables.info? Tryz.prog.toTables 58).isSome = true := isSome_of inf58
theorem cells58 : Program.cellsOf Tryz.prog 58 = 1 := cells_of inf58 rfl
theorem agg58 : aggT Tryz.prog 58 = some false := agg_of Tryz.underlying58 rfl
theorem inf59 : Tables.info? Tryz.prog.toTables 59 = some Tryz.t59 := info_of Tryz.types_size (by decide) Tryz.type59
theorem info59 : (Tables.info? Tryz.prog.toTables 59).isSome = true := isSome_of inf59
theorem cells59 : Program.cellsOf Tryz.prog 59 = 1 := cells_of inf59 rfl
theorem agg59 : aggT Tryz.prog 59 = some false := agg_of Tryz.underlying59 rfl
theorem isl59 : isSlice Tryz.prog 59 = true := isSlice_of Tryz.underlying59
theorem inf60 : Tables.info? Tryz.prog.toTables 60 = some Tryz.t60 := info_of Tryz.types_size (by decide) Tryz.type60
theorem info60 : (Tables.info? Tryz.prog.toTables 60).isSome = true := isSome_of inf60
theorem cells60 : Program.cellsOf Tryz.prog 60 = 1 := cells_of inf60 rfl
theorem inf61 : Tables.info? Tryz.prog.toTables 61 = some Tryz.t61 := info_of Tryz.types_size (by decide) Tryz.type61
theorem info61 : (Tables.info? Tryz.prog.toTables 61).isSome = true := isSome_of inf61
theorem cells61 : Program.cellsOf Tryz.prog 61 = 1 := cells_of inf61 rfl
theorem agg61 : aggT Tryz.prog 61 = some false := agg_of Tryz.underlying61 rfl
theorem inf62 : Tables.info? Tryz.prog.toTables 62 = some Tryz.t62 := info_of Tryz.types_size (by decide) Tryz.type62
theorem info62 : (Tables.info? Tryz.prog.toTables 62).isSome = true := isSome_of inf62
theorem cells62 : Program.cellsOf Tryz.prog 62 = 3 := cells_of inf62 rfl
theorem agg62 : aggT Tryz.prog 62 = some true := agg_of Tryz.underlying62 rfl
theorem inf63 : Tables.info? Tryz.prog.toTables 63 = some Tryz.t63 := info_of Tryz.types_size (by decide) Tryz.type63
theorem info63 : (Tables.info? Tryz.prog.toTables 63).isSome = true := isSome_of inf63
theorem cells63 : Program.cellsOf Tryz.prog 63 = 3 := cells_of inf63 rfl
theorem agg63 : aggT Tryz.prog 63 = some true := agg_of Tryz.underlying63 rfl
theorem inf64 : Tables.info? Tryz.prog.toTables 64 = some Tryz.t64 := info_of Tryz.types_size (by decide) Tryz.type64
theorem info64 : (Tables.info? Tryz.prog.toTables 64).isSome = true := isSome_of inf64
theorem cells64 : Program.cellsOf Tryz.prog 64 = 4 := cells_of inf64 rfl
theorem agg64 : aggT Tryz.prog 64 = some true := agg_of Tryz.underlying64 rfl
theorem inf65 : Tables.info? Tryz.prog.toTables 65 = some Tryz.t65 := info_of Tryz.types_size (by decide) Tryz.type65
theorem info65 : (Tables.info? Tryz.prog.toTables 65).isSome = true := isSome_of inf65
theorem cells65 : Program.cellsOf Tryz.prog 65 = 4 := cells_of inf65 rfl
theorem agg65 : aggT Tryz.prog 65 = some true := agg_of Tryz.underlying65 rfl
theorem inf66 : Tables.info? Tryz.prog.toTables 66 = some Tryz.t66 := info_of Tryz.types_size (by decide) Tryz.type66
theorem info66 : (Tables.info? Tryz.prog.toTables 66).isSome = true := isSome_of inf66
theorem cells66 : Program.cellsOf Tryz.prog 66 = 2 := cells_of inf66 rfl
theorem agg66 : aggT Tryz.prog 66 = some true := agg_of Tryz.underlying66 rfl
theorem inf67 : Tables.info? Tryz.prog.toTables 67 = some Tryz.t67 := info_of Tryz.types_size (by decide) Tryz.type67
theorem info67 : (Tables.info? Tryz.prog.toTables 67).isSome = true := isSome_of inf67
theorem cells67 : Program.cellsOf Tryz.prog 67 = 2 := cells_of inf67 rfl
theorem agg67 : aggT Tryz.prog 67 = some true := agg_of Tryz.underlying67 rfl
theorem inf68 : Tables.info? Tryz.prog.toTables 68 = some Tryz.t68 := info_of Tryz.types_size (by decide) Tryz.type68
theorem info68 : (Tables.info? Tryz.prog.toTables 68).isSome = true := isSome_of inf68
theorem cells68 : Program.cellsOf Tryz.prog 68 = 1 := cells_of inf68 rfl
theorem inf69 : Tables.info? Tryz.prog.toTables 69 = some Tryz.t69 := info_of Tryz.types_size (by decide) Tryz.type69
theorem info69 : (Tables.info? Tryz.prog.toTables 69).isSome = true := isSome_of inf69
theorem cells69 : Program.cellsOf Tryz.prog 69 = 1 := cells_of inf69 rfl
theorem agg69 : aggT Tryz.prog 69 = some false := agg_of Tryz.underlying69 rfl
theorem inf70 : Tables.info? Tryz.prog.toTables 70 = some Tryz.t70 := info_of Tryz.types_size (by decide) Tryz.type70
theorem info70 : (Tables.info? Tryz.prog.toTables 70).isSome = true := isSome_of inf70
theorem cells70 : Program.cellsOf Tryz.prog 70 = 1 := cells_of inf70 rfl
theorem agg70 : aggT Tryz.prog 70 = some false := agg_of Tryz.underlying70 rfl
theorem inf71 : Tables.info? Tryz.prog.toTables 71 = some Tryz.t71 := info_of Tryz.types_size (by decide) Tryz.type71
theorem info71 : (Tables.info? Tryz.prog.toTables 71).isSome = true := isSome_of inf71
theorem cells71 : Program.cellsOf Tryz.prog 71 = 1 := cells_of inf71 rfl
theorem agg71 : aggT Tryz.prog 71 = some false := agg_of Tryz.underlying71 rfl
theorem isl71 : isSlice Tryz.prog 71 = true := isSlice_of Tryz.underlying71
theorem inf72 : Tables.info? Tryz.prog.toTables 72 = some Tryz.t72 := info_of Tryz.types_size (by decide) Tryz.type72
theorem info72 : (Tables.info? Tryz.prog.toTables 72).isSome = true := isSome_of inf72
theorem cells72 : Program.cellsOf Tryz.prog 72 = 1 := cells_of inf72 rfl
theorem agg72 : aggT Tryz.prog 72 = some false := agg_of Tryz.underlying72 rfl
theorem inf73 : Tables.info? Tryz.prog.toTables 73 = some Tryz.t73 := info_of Tryz.types_size (by decide) Tryz.type73
theorem info73 : (Tables.info? Tryz.prog.toTables 73).isSome = true := isSome_of inf73
theorem cells73 : Program.cellsOf Tryz.prog 73 = 1 := cells_of inf73 rfl
theorem agg73 : aggT Tryz.prog 73 = some false := agg_of Tryz.underlying73 rfl
theorem inf74 : Tables.info? Tryz.prog.toTables 74 = some Tryz.t74 := info_of Tryz.types_size (by decide) Tryz.type74
theorem info74 : (Tables.info? Tryz.prog.toTables 74).isSome = true := isSome_of inf74
theorem cells74 : Program.cellsOf Tryz.prog 74 = 1 := cells_of inf74 rfl
theorem agg74 : aggT Tryz.prog 74 = some false := agg_of Tryz.underlying74 rfl
theorem inf75 : Tables.info? Tryz.prog.toTables 75 = some Tryz.t75 := info_of Tryz.types_size (by decide) Tryz.type75
theorem info75 : (Tables.info? Tryz.prog.toTables 75).isSome = true := isSome_of inf75
theorem cells75 : Program.cellsOf Tryz.prog 75 = 1 := cells_of inf75 rfl
theorem agg75 : aggT Tryz.prog 75 = some false := agg_of Tryz.underlying75 rfl
theorem inf76 : Tables.info? Tryz.prog.toTables 76 = some Tryz.t76 := info_of Tryz.types_size (by decide) Tryz.type76
theorem info76 : (Tables.info? Tryz.prog.toTables 76).isSome = true := isSome_of inf76
theorem cells76 : Program.cellsOf Tryz.prog 76 = 1 := cells_of inf76 rfl
theorem agg76 : aggT Tryz.prog 76 = some false := agg_of Tryz.underlying76 rfl
theorem inf77 : Tables.info? Tryz.prog.toTables 77 = some Tryz.t77 := info_of Tryz.types_size (by decide) Tryz.type77
theorem info77 : (Tables.info? Tryz.prog.toTables 77).isSome = true := isSome_of inf77
theorem cells77 : Program.cellsOf Tryz.prog 77 = 1 := cells_of inf77 rfl
theorem agg77 : aggT Tryz.prog 77 = some false := agg_of Tryz.underlying77 rfl
theorem isp77 : isPtr Tryz.prog 77 = true := isPtr_of Tryz.underlying77
theorem inf78 : Tables.info? Tryz.prog.toTables 78 = some Tryz.t78 := info_of Tryz.types_size (by decide) Tryz.type78
theorem info78 : (Tables.info? Tryz.prog.toTables 78).isSome = true := isSome_of inf78
theorem cells78 : Program.cellsOf Tryz.prog 78 = 2 := cells_of inf78 rfl
theorem agg78 : aggT Tryz.prog 78 = some true := agg_of Tryz.underlying78 rfl
theorem inf79 : Tables.info? Tryz.prog.toTables 79 = some Tryz.t79 := info_of Tryz.types_size (by decide) Tryz.type79
theorem info79 : (Tables.info? Tryz.prog.toTables 79).isSome = true := isSome_of inf79
theorem cells79 : Program.cellsOf Tryz.prog 79 = 2 := cells_of inf79 rfl
theorem agg79 : aggT Tryz.prog 79 = some true := agg_of Tryz.underlying79 rfl
theorem inf80 : Tables.info? Tryz.prog.toTables 80 = some Tryz.t80 := info_of Tryz.types_size (by decide) Tryz.type80
theorem info80 : (Tables.info? Tryz.prog.toTables 80).isSome = true := isSome_of inf80
theorem cells80 : Program.cellsOf Tryz.prog 80 = 5 := cells_of inf80 rfl
theorem agg80 : aggT Tryz.prog 80 = some true := agg_of Tryz.underlying80 rfl
theorem inf81 : Tables.info? Tryz.prog.toTables 81 = some Tryz.t81 := info_of Tryz.types_size (by decide) Tryz.type81
theorem info81 : (Tables.info? Tryz.prog.toTables 81).isSome = true := isSome_of inf81
theorem cells81 : Program.cellsOf Tryz.prog 81 = 5 := cells_of inf81 rfl
theorem agg81 : aggT Tryz.prog 81 = some true := agg_of Tryz.underlying81 rfl
theorem inf82 : Tables.info? Tryz.prog.toTables 82 = some Tryz.t82 := info_of Tryz.types_size (by decide) Tryz.type82
theorem info82 : (Tables.info? Tryz.prog.toTables 82).isSome = true := isSome_of inf82
theorem cells82 : Program.cellsOf Tryz.prog 82 = 2 := cells_of inf82 rfl
theorem agg82 : aggT Tryz.prog 82 = some true := agg_of Tryz.underlying82 rfl
theorem inf83 : Tables.info? Tryz.prog.toTables 83 = some Tryz.t83 := info_of Tryz.types_size (by decide) Tryz.type83
theorem info83 : (Tables.info? Tryz.prog.toTables 83).isSome = true := isSome_of inf83
theorem cells83 : Program.cellsOf Tryz.prog 83 = 2 := cells_of inf83 rfl
theorem agg83 : aggT Tryz.prog 83 = some true := agg_of Tryz.underlying83 rfl
theorem inf84 : Tables.info? Tryz.prog.toTables 84 = some Tryz.t84 := info_of Tryz.types_size (by decide) Tryz.type84
theorem info84 : (Tables.info? Tryz.prog.toTables 84).isSome = true := isSome_of inf84
theorem cells84 : Program.cellsOf Tryz.prog 84 = 1 := cells_of inf84 rfl
theorem agg84 : aggT Tryz.prog 84 = some false := agg_of Tryz.underlying84 rfl
theorem inf85 : Tables.info? Tryz.prog.toTables 85 = some Tryz.t85 := info_of Tryz.types_size (by decide) Tryz.type85
theorem info85 : (Tables.info? Tryz.prog.toTables 85).isSome = true := isSome_of inf85
theorem cells85 : Program.cellsOf Tryz.prog 85 = 1 := cells_of inf85 rfl
theorem inf86 : Tables.info? Tryz.prog.toTables 86 = some Tryz.t86 := info_of Tryz.types_size (by decide) Tryz.type86
theorem info86 : (Tables.info? Tryz.prog.toTables 86).isSome = true := isSome_of inf86
theorem cells86 : Program.cellsOf Tryz.prog 86 = 1 := cells_of inf86 rfl
theorem agg86 : aggT Tryz.prog 86 = some false := agg_of Tryz.underlying86 rfl
theorem inf87 : Tables.info? Tryz.prog.toTables 87 = some Tryz.t87 := info_of Tryz.types_size (by decide) Tryz.type87
theorem info87 : (Tables.info? Tryz.prog.toTables 87).isSome = true := isSome_of inf87
theorem cells87 : Program.cellsOf Tryz.prog 87 = 1 := cells_of inf87 rfl
theorem agg87 : aggT Tryz.prog 87 = some false := agg_of Tryz.underlying87 rfl
theorem inf88 : Tables.info? Tryz.prog.toTables 88 = some Tryz.t88 := info_of Tryz.types_size (by decide) Tryz.type88
theorem info88 : (Tables.info? Tryz.prog.toTables 88).isSome = true := isSome_of inf88
theorem cells88 : Program.cellsOf Tryz.prog 88 = 1 := cells_of inf88 rfl
theorem agg88 : aggT Tryz.prog 88 = some false := agg_of Tryz.underlying88 rfl
theorem inf89 : Tables.info? Tryz.prog.toTables 89 = some Tryz.t89 := info_of Tryz.types_size (by decide) Tryz.type89
theorem info89 : (Tables.info? Tryz.prog.toTables 89).isSome = true := isSome_of inf89
theorem cells89 : Program.cellsOf Tryz.prog 89 = 1 := cells_of inf89 rfl
theorem agg89 : aggT Tryz.prog 89 = some false := agg_of Tryz.underlying89 rfl
theorem isp89 : isPtr Tryz.prog 89 = true := isPtr_of Tryz.underlying89
theorem inf90 : Tables.info? Tryz.prog.toTables 90 = some Tryz.t90 := info_of Tryz.types_size (by decide) Tryz.type90
theorem info90 : (Tables.info? Tryz.prog.toTables 90).isSome = true := isSome_of inf90
theorem cells90 : Program.cellsOf Tryz.prog 90 = 1 := cells_of inf90 rfl
theorem agg90 : aggT Tryz.prog 90 = some false := agg_of Tryz.underlying90 rfl
theorem inf91 : Tables.info? Tryz.prog.toTables 91 = some Tryz.t91 := info_of Tryz.types_size (by decide) Tryz.type91
theorem info91 : (Tables.info? Tryz.prog.toTables 91).isSome = true := isSome_of inf91
theorem cells91 : Program.cellsOf Tryz.prog 91 = 1 := cells_of inf91 rfl
theorem agg91 : aggT Tryz.prog 91 = some false := agg_of Tryz.underlying91 rfl
theorem inf92 : Tables.info? Tryz.prog.toTables 92 = some Tryz.t92 := info_of Tryz.types_size (by decide) Tryz.type92
theorem info92 : (Tables.info? Tryz.prog.toTables 92).isSome = true := isSome_of inf92
theorem cells92 : Program.cellsOf Tryz.prog 92 = 1 := cells_of inf92 rfl
theorem agg92 : aggT Tryz.prog 92 = some false := agg_of Tryz.underlying92 rfl
theorem inf93 : Tables.info? Tryz.prog.toTables 93 = some Tryz.t93 := info_of Tryz.types_size (by decide) Tryz.type93
theorem info93 : (Tables.info? Tryz.prog.toTables 93).isSome = true := isSome_of inf93
theorem cells93 : Program.cellsOf Tryz.prog 93 = 1 := cells_of inf93 rfl
theorem agg93 : aggT Tryz.prog 93 = some false := agg_of Tryz.underlying93 rfl
theorem inf94 : Tables.info? Tryz.prog.toTables 94 = some Tryz.t94 := info_of Tryz.types_size (by decide) Tryz.type94
theorem info94 : (Tables.info? Tryz.prog.toTables 94).isSome = true := isSome_of inf94
theorem cells94 : Program.cellsOf Tryz.prog 94 = 1 := cells_of inf94 rfl
theorem agg94 : aggT Tryz.prog 94 = some false := agg_of Tryz.underlying94 rfl
theorem inf95 : Tables.info? Tryz.prog.toTables 95 = some Tryz.t95 := info_of Tryz.types_size (by decide) Tryz.type95
theorem info95 : (Tables.info? Tryz.prog.toTables 95).isSome = true := isSome_of inf95
theorem cells95 : Program.cellsOf Tryz.prog 95 = 1 := cells_of inf95 rfl
theorem inf96 : Tables.info? Tryz.prog.toTables 96 = some Tryz.t96 := info_of Tryz.types_size (by decide) Tryz.type96
theorem info96 : (Tables.info? Tryz.prog.toTables 96).isSome = true := isSome_of inf96
theorem cells96 : Program.cellsOf Tryz.prog 96 = 1 := cells_of inf96 rfl
theorem agg96 : aggT Tryz.prog 96 = some false := agg_of Tryz.underlying96 rfl
theorem inf97 : Tables.info? Tryz.prog.toTables 97 = some Tryz.t97 := info_of Tryz.types_size (by decide) Tryz.type97
theorem info97 : (Tables.info? Tryz.prog.toTables 97).isSome = true := isSome_of inf97
theorem cells97 : Program.cellsOf Tryz.prog 97 = 1 := cells_of inf97 rfl
theorem agg97 : aggT Tryz.prog 97 = some false := agg_of Tryz.underlying97 rfl
theorem inf98 : Tables.info? Tryz.prog.toTables 98 = some Tryz.t98 := info_of Tryz.types_size (by decide) Tryz.type98
theorem info98 : (Tables.info? Tryz.prog.toTables 98).isSome = true := isSome_of inf98
theorem cells98 : Program.cellsOf Tryz.prog 98 = 1 := cells_of inf98 rfl
theorem agg98 : aggT Tryz.prog 98 = some false := agg_of Tryz.underlying98 rfl
theorem inf99 : Tables.info? Tryz.prog.toTables 99 = some Tryz.t99 := info_of Tryz.types_size (by decide) Tryz.type99
theorem info99 : (Tables.info? Tryz.prog.toTables 99).isSome = true := isSome_of inf99
theorem cells99 : Program.cellsOf Tryz.prog 99 = 1 := cells_of inf99 rfl
theorem agg99 : aggT Tryz.prog 99 = some false := agg_of Tryz.underlying99 rfl
theorem inf100 : Tables.info? Tryz.prog.toTables 100 = some Tryz.t100 := info_of Tryz.types_size (by decide) Tryz.type100
theorem info100 : (Tables.info? Tryz.prog.toTables 100).isSome = true := isSome_of inf100
theorem cells100 : Program.cellsOf Tryz.prog 100 = 1 := cells_of inf100 rfl
theorem agg100 : aggT Tryz.prog 100 = some false := agg_of Tryz.underlying100 rfl
theorem inf101 : Tables.info? Tryz.prog.toTables 101 = some Tryz.t101 := info_of Tryz.types_size (by decide) Tryz.type101
theorem info101 : (Tables.info? Tryz.prog.toTables 101).isSome = true := isSome_of inf101
theorem cells101 : Program.cellsOf Tryz.prog 101 = 1 := cells_of inf101 rfl
theorem agg101 : aggT Tryz.prog 101 = some false := agg_of Tryz.underlying101 rfl
theorem inf102 : Tables.info? Tryz.prog.toTables 102 = some Tryz.t102 := info_of Tryz.types_size (by decide) Tryz.type102
theorem info102 : (Tables.info? Tryz.prog.toTables 102).isSome = true := isSome_of inf102
theorem cells102 : Program.cellsOf Tryz.prog 102 = 1 := cells_of inf102 rfl
theorem agg102 : aggT Tryz.prog 102 = some false := agg_of Tryz.underlying102 rfl
theorem inf103 : Tables.info? Tryz.prog.toTables 103 = some Tryz.t103 := info_of Tryz.types_size (by decide) Tryz.type103
theorem info103 : (Tables.info? Tryz.prog.toTables 103).isSome = true := isSome_of inf103
theorem cells103 : Program.cellsOf Tryz.prog 103 = 1 := cells_of inf103 rfl
theorem agg103 : aggT Tryz.prog 103 = some false := agg_of Tryz.underlying103 rfl
theorem inf104 : Tables.info? Tryz.prog.toTables 104 = some Tryz.t104 := info_of Tryz.types_size (by decide) Tryz.type104
theorem info104 : (Tables.info? Tryz.prog.toTables 104).isSome = true := isSome_of inf104
theorem cells104 : Program.cellsOf Tryz.prog 104 = 1 := cells_of inf104 rfl
theorem agg104 : aggT Tryz.prog 104 = some false := agg_of Tryz.underlying104 rfl
theorem inf105 : Tables.info? Tryz.prog.toTables 105 = some Tryz.t105 := info_of Tryz.types_size (by decide) Tryz.type105
theorem info105 : (Tables.info? Tryz.prog.toTables 105).isSome = true := isSome_of inf105
theorem cells105 : Program.cellsOf Tryz.prog 105 = 1 := cells_of inf105 rfl
theorem agg105 : aggT Tryz.prog 105 = some false := agg_of Tryz.underlying105 rfl
theorem isl105 : isSlice Tryz.prog 105 = true := isSlice_of Tryz.underlying105
theorem inf106 : Tables.info? Tryz.prog.toTables 106 = some Tryz.t106 := info_of Tryz.types_size (by decide) Tryz.type106
theorem info106 : (Tables.info? Tryz.prog.toTables 106).isSome = true := isSome_of inf106
theorem cells106 : Program.cellsOf Tryz.prog 106 = 1 := cells_of inf106 rfl
theorem agg106 : aggT Tryz.prog 106 = some false := agg_of Tryz.underlying106 rfl
theorem isp106 : isPtr Tryz.prog 106 = true := isPtr_of Tryz.underlying106
theorem inf107 : Tables.info? Tryz.prog.toTables 107 = some Tryz.t107 := info_of Tryz.types_size (by decide) Tryz.type107
theorem info107 : (Tables.info? Tryz.prog.toTables 107).isSome = true := isSome_of inf107
theorem cells107 : Program.cellsOf Tryz.prog 107 = 2 := cells_of inf107 rfl
theorem agg107 : aggT Tryz.prog 107 = some true := agg_of Tryz.underlying107 rfl
theorem inf108 : Tables.info? Tryz.prog.toTables 108 = some Tryz.t108 := info_of Tryz.types_size (by decide) Tryz.type108
theorem info108 : (Tables.info? Tryz.prog.toTables 108).isSome = true := isSome_of inf108
theorem cells108 : Program.cellsOf Tryz.prog 108 = 2 := cells_of inf108 rfl
theorem agg108 : aggT Tryz.prog 108 = some true := agg_of Tryz.underlying108 rfl
theorem inf109 : Tables.info? Tryz.prog.toTables 109 = some Tryz.t109 := info_of Tryz.types_size (by decide) Tryz.type109
theorem info109 : (Tables.info? Tryz.prog.toTables 109).isSome = true := isSome_of inf109
theorem cells109 : Program.cellsOf Tryz.prog 109 = 1 := cells_of inf109 rfl
theorem inf110 : Tables.info? Tryz.prog.toTables 110 = some Tryz.t110 := info_of Tryz.types_size (by decide) Tryz.type110
theorem info110 : (Tables.info? Tryz.prog.toTables 110).isSome = true := isSome_of inf110
theorem cells110 : Program.cellsOf Tryz.prog 110 = 1 := cells_of inf110 rfl
theorem agg110 : aggT Tryz.prog 110 = some false := agg_of Tryz.underlying110 rfl
theorem inf111 : Tables.info? Tryz.prog.toTables 111 = some Tryz.t111 := info_of Tryz.types_size (by decide) Tryz.type111
theorem info111 : (Tables.info? Tryz.prog.toTables 111).isSome = true := isSome_of inf111
theorem cells111 : Program.cellsOf Tryz.prog 111 = 1 := cells_of inf111 rfl
theorem agg111 : aggT Tryz.prog 111 = some false := agg_of Tryz.underlying111 rfl
theorem inf112 : Tables.info? Tryz.prog.toTables 112 = some Tryz.t112 := info_of Tryz.types_size (by decide) Tryz.type112
theorem info112 : (Tables.info? Tryz.prog.toTables 112).isSome = true := isSome_of inf112
theorem cells112 : Program.cellsOf Tryz.prog 112 = 1 := cells_of inf112 rfl
theorem agg112 : aggT Tryz.prog 112 = some false := agg_of Tryz.underlying112 rfl
theorem inf113 : Tables.info? Tryz.prog.toTables 113 = some Tryz.t113 := info_of Tryz.types_size (by decide) Tryz.type113
theorem info113 : (Tables.info? Tryz.prog.toTables 113).isSome = true := isSome_of inf113
theorem cells113 : Program.cellsOf Tryz.prog 113 = 1 := cells_of inf113 rfl
theorem agg113 : aggT Tryz.prog 113 = some false := agg_of Tryz.underlying113 rfl
theorem inf114 : Tables.info? Tryz.prog.toTables 114 = some Tryz.t114 := info_of Tryz.types_size (by decide) Tryz.type114
theorem info114 : (Tables.info? Tryz.prog.toTables 114).isSome = true := isSome_of inf114
theorem cells114 : Program.cellsOf Tryz.prog 114 = 1 := cells_of inf114 rfl
theorem agg114 : aggT Tryz.prog 114 = some false := agg_of Tryz.underlying114 rfl
theorem inf115 : Tables.info? Tryz.prog.toTables 115 = some Tryz.t115 := info_of Tryz.types_size (by decide) Tryz.type115
theorem info115 : (Tables.info? Tryz.prog.toTables 115).isSome = true := isSome_of inf115
theorem cells115 : Program.cellsOf Tryz.prog 115 = 1 := cells_of inf115 rfl
theorem agg115 : aggT Tryz.prog 115 = some false := agg_of Tryz.underlying115 rfl
theorem inf116 : Tables.info? Tryz.prog.toTables 116 = some Tryz.t116 := info_of Tryz.types_size (by decide) Tryz.type116
theorem info116 : (Tables.info? Tryz.prog.toTables 116).isSome = true := isSome_of inf116
theorem cells116 : Program.cellsOf Tryz.prog 116 = 1 := cells_of inf116 rfl
theorem agg116 : aggT Tryz.prog 116 = some false := agg_of Tryz.underlying116 rfl
theorem isp116 : isPtr Tryz.prog 116 = true := isPtr_of Tryz.underlying116
theorem inf117 : Tables.info? Tryz.prog.toTables 117 = some Tryz.t117 := info_of Tryz.types_size (by decide) Tryz.type117
theorem info117 : (Tables.info? Tryz.prog.toTables 117).isSome = true := isSome_of inf117
theorem cells117 : Program.cellsOf Tryz.prog 117 = 1 := cells_of inf117 rfl
theorem agg117 : aggT Tryz.prog 117 = some false := agg_of Tryz.underlying117 rfl
theorem inf118 : Tables.info? Tryz.prog.toTables 118 = some Tryz.t118 := info_of Tryz.types_size (by decide) Tryz.type118
theorem info118 : (Tables.info? Tryz.prog.toTables 118).isSome = true := isSome_of inf118
theorem cells118 : Program.cellsOf Tryz.prog 118 = 1 := cells_of inf118 rfl
theorem agg118 : aggT Tryz.prog 118 = some false := agg_of Tryz.underlying118 rfl
theorem inf119 : Tables.info? Tryz.prog.toTables 119 = some Tryz.t119 := info_of Tryz.types_size (by decide) Tryz.type119
theorem info119 : (Tables.info? Tryz.prog.toTables 119).isSome = true := isSome_of inf119
theorem cells119 : Program.cellsOf Tryz.prog 119 = 1 := cells_of inf119 rfl
theorem agg119 : aggT Tryz.prog 119 = some false := agg_of Tryz.underlying119 rfl
theorem inf120 : Tables.info? Tryz.prog.toTables 120 = some Tryz.t120 := info_of Tryz.types_size (by decide) Tryz.type120
theorem info120 : (Tables.info? Tryz.prog.toTables 120).isSome = true := isSome_of inf120
theorem cells120 : Program.cellsOf Tryz.prog 120 = 1 := cells_of inf120 rfl
theorem agg120 : aggT Tryz.prog 120 = some false := agg_of Tryz.underlying120 rfl
theorem inf121 : Tables.info? Tryz.prog.toTables 121 = some Tryz.t121 := info_of Tryz.types_size (by decide) Tryz.type121
theorem info121 : (Tables.info? Tryz.prog.toTables 121).isSome = true := isSome_of inf121
theorem cells121 : Program.cellsOf Tryz.prog 121 = 1 := cells_of inf121 rfl
theorem agg121 : aggT Tryz.prog 121 = some false := agg_of Tryz.underlying121 rfl
theorem inf122 : Tables.info? Tryz.prog.toTables 122 = some Tryz.t122 := info_of Tryz.types_size (by decide) Tryz.type122
theorem info122 : (Tables.info? Tryz.prog.toTables 122).isSome = true := isSome_of inf122
theorem cells122 : Program.cellsOf Tryz.prog 122 = 1 := cells_of inf122 rfl
theorem agg122 : aggT Tryz.prog 122 = some false := agg_of Tryz.underlying122 rfl
theorem inf123 : Tables.info? Tryz.prog.toTables 123 = some Tryz.t123 := info_of Tryz.types_size (by decide) Tryz.type123
theorem info123 : (Tables.info? Tryz.prog.toTables 123).isSome = true := isSome_of inf123
theorem cells123 : Program.cellsOf Tryz.prog 123 = 4 := cells_of inf123 rfl
theorem agg123 : aggT Tryz.prog 123 = some true := agg_of Tryz.underlying123 rfl
theorem inf124 : Tables.info? Tryz.prog.toTables 124 = some Tryz.t124 := info_of Tryz.types_size (by decide) Tryz.type124
theorem info124 : (Tables.info? Tryz.prog.toTables 124).isSome = true := isSome_of inf124
theorem cells124 : Program.cellsOf Tryz.prog 124 = 4 := cells_of inf124 rfl
theorem agg124 : aggT Tryz.prog 124 = some true := agg_of Tryz.underlying124 rfl
theorem inf125 : Tables.info? Tryz.prog.toTables 125 = some Tryz.t125 := info_of Tryz.types_size (by decide) Tryz.type125
theorem info125 : (Tables.info? Tryz.prog.toTables 125).isSome = true := isSome_of inf125
theorem cells125 : Program.cellsOf Tryz.prog 125 = 0 := cells_of inf125 rfl
theorem agg125 : aggT Tryz.prog 125 = some true := agg_of Tryz.underlying125 rfl
theorem inf126 : Tables.info? Tryz.prog.toTables 126 = some Tryz.t126 := info_of Tryz.types_size (by decide) Tryz.type126
theorem info126 : (Tables.info? Tryz.prog.toTables 126).isSome = true := isSome_of inf126
theorem cells126 : Program.cellsOf Tryz.prog 126 = 0 := cells_of inf126 rfl
theorem agg126 : aggT Tryz.prog 126 = some true := agg_of Tryz.underlying126 rfl
theorem inf127 : Tables.info? Tryz.prog.toTables 127 = some Tryz.t127 := info_of Tryz.types_size (by decide) Tryz.type127
theorem info127 : (Tables.info? Tryz.prog.toTables 127).isSome = true := isSome_of inf127
theorem cells127 : Program.cellsOf Tryz.prog 127 = 0 := cells_of inf127 rfl
theorem agg127 : aggT Tryz.prog 127 = some true := agg_of Tryz.underlying127 rfl
theorem inf128 : Tables.info? Tryz.prog.toTables 128 = some Tryz.t128 := info_of Tryz.types_size (by decide) Tryz.type128
theorem info128 : (Tables.info? Tryz.prog.toTables 128).isSome = true := isSome_of inf128
theorem cells128 : Program.cellsOf Tryz.prog 128 = 1 := cells_of inf128 rfl
theorem agg128 : aggT Tryz.prog 128 = some false := agg_of Tryz.underlying128 rfl
theorem inf129 : Tables.info? Tryz.prog.toTables 129 = some Tryz.t129 := info_of Tryz.types_size (by decide) Tryz.type129
theorem info129 : (Tables.info? Tryz.prog.toTables 129).isSome = true := isSome_of inf129
theorem cells129 : Program.cellsOf Tryz.prog 129 = 1 := cells_of inf129 rfl
theorem agg129 : aggT Tryz.prog 129 = some false := agg_of Tryz.underlying129 rfl
theorem inf130 : Tables.info? Tryz.prog.toTables 130 = some Tryz.t130 := info_of Tryz.types_size (by decide) Tryz.type130
theorem info130 : (Tables.info? Tryz.prog.toTables 130).isSome = true := isSome_of inf130
theorem cells130 : Program.cellsOf Tryz.prog 130 = 1 := cells_of inf130 rfl
theorem agg130 : aggT Tryz.prog 130 = some false := agg_of Tryz.underlying130 rfl
theorem inf131 : Tables.info? Tryz.prog.toTables 131 = some Tryz.t131 := info_of Tryz.types_size (by decide) Tryz.type131
theorem info131 : (Tables.info? Tryz.prog.toTables 131).isSome = true := isSome_of inf131
theorem cells131 : Program.cellsOf Tryz.prog 131 = 1 := cells_of inf131 rfl
theorem agg131 : aggT Tryz.prog 131 = some false := agg_of Tryz.underlying131 rfl
theorem inf132 : Tables.info? Tryz.prog.toTables 132 = some Tryz.t132 := info_of Tryz.types_size (by decide) Tryz.type132
theorem info132 : (Tables.info? Tryz.prog.toTables 132).isSome = true := isSome_of inf132
theorem cells132 : Program.cellsOf Tryz.prog 132 = 1 := cells_of inf132 rfl
theorem agg132 : aggT Tryz.prog 132 = some false := agg_of Tryz.underlying132 rfl
theorem inf133 : Tables.info? Tryz.prog.toTables 133 = some Tryz.t133 := info_of Tryz.types_size (by decide) Tryz.type133
theorem info133 : (Tables.info? Tryz.prog.toTables 133).isSome = true := isSome_of inf133
theorem cells133 : Program.cellsOf Tryz.prog 133 = 1 := cells_of inf133 rfl
theorem agg133 : aggT Tryz.prog 133 = some false := agg_of Tryz.underlying133 rfl
theorem inf134 : Tables.info? Tryz.prog.toTables 134 = some Tryz.t134 := info_of Tryz.types_size (by decide) Tryz.type134
theorem info134 : (Tables.info? Tryz.prog.toTables 134).isSome = true := isSome_of inf134
theorem cells134 : Program.cellsOf Tryz.prog 134 = 11 := cells_of inf134 rfl
theorem agg134 : aggT Tryz.prog 134 = some true := agg_of Tryz.underlying134 rfl
theorem inf135 : Tables.info? Tryz.prog.toTables 135 = some Tryz.t135 := info_of Tryz.types_size (by decide) Tryz.type135
theorem info135 : (Tables.info? Tryz.prog.toTables 135).isSome = true := isSome_of inf135
theorem cells135 : Program.cellsOf Tryz.prog 135 = 11 := cells_of inf135 rfl
theorem agg135 : aggT Tryz.prog 135 = some true := agg_of Tryz.underlying135 rfl
theorem off7_0 : fieldOff Tryz.prog 7 0 = some 0 := fieldOff_of Tryz.underlying7 rfl inf2 (by decide) rfl
theorem off7_1 : fieldOff Tryz.prog 7 1 = some 1 := fieldOff_of Tryz.underlying7 rfl inf3 (by decide) rfl
theorem off7_2 : fieldOff Tryz.prog 7 2 = some 2 := fieldOff_of Tryz.underlying7 rfl inf4 (by decide) rfl
theorem off7_3 : fieldOff Tryz.prog 7 3 = some 3 := fieldOff_of Tryz.underlying7 rfl inf6 (by decide) rfl
theorem off8_0 : fieldOff Tryz.prog 8 0 = some 0 := fieldOff_of Tryz.underlying8 rfl inf2 (by decide) rfl
theorem off8_1 : fieldOff Tryz.prog 8 1 = some 1 := fieldOff_of Tryz.underlying8 rfl inf3 (by decide) rfl
theorem off8_2 : fieldOff Tryz.prog 8 2 = some 2 := fieldOff_of Tryz.underlying8 rfl inf4 (by decide) rfl
theorem off8_3 : fieldOff Tryz.prog 8 3 = some 3 := fieldOff_of Tryz.underlying8 rfl inf6 (by decide) rfl
theorem off13_0 : fieldOff Tryz.prog 13 0 = some 0 := fieldOff_of Tryz.underlying13 rfl inf9 (by decide) rfl
theorem off13_1 : fieldOff Tryz.prog 13 1 = some 1 := fieldOff_of Tryz.underlying13 rfl inf12 (by decide) rfl
theorem off14_0 : fieldOff Tryz.prog 14 0 = some 0 := fieldOff_of Tryz.underlying14 rfl inf9 (by decide) rfl
theorem off14_1 : fieldOff Tryz.prog 14 1 = some 1 := fieldOff_of Tryz.underlying14 rfl inf12 (by decide) rfl
theorem off18_0 : fieldOff Tryz.prog 18 0 = some 0 := fieldOff_of Tryz.underlying18 rfl inf17 (by decide) rfl
theorem off19_0 : fieldOff Tryz.prog 19 0 = some 0 := fieldOff_of Tryz.underlying19 rfl inf17 (by decide) rfl
theorem sli23 : sliceInfo Tryz.prog 23 = some (Tryz.t25, 25) := sliceInfo_of Tryz.underlying23 inf25
theorem b1_23 : build1OK Tryz.prog 23 = true := build1OK_of sli23 rfl
theorem es23 : elemSize Tryz.prog 23 = 5 := elemSize_of sli23 rfl
theorem off24_0 : fieldOff Tryz.prog 24 0 = some 0 := fieldOff_of Tryz.underlying24 rfl inf5 (by decide) rfl
theorem off24_1 : fieldOff Tryz.prog 24 1 = some 1 := fieldOff_of Tryz.underlying24 rfl inf3 (by decide) rfl
theorem off24_2 : fieldOff Tryz.prog 24 2 = some 2 := fieldOff_of Tryz.underlying24 rfl inf9 (by decide) rfl
theorem off24_3 : fieldOff Tryz.prog 24 3 = some 3 := fieldOff_of Tryz.underlying24 rfl inf22 (by decide) rfl
theorem off24_4 : fieldOff Tryz.prog 24 4 = some 4 := fieldOff_of Tryz.underlying24 rfl inf23 (by decide) rfl
theorem off25_0 : fieldOff Tryz.prog 25 0 = some 0 := fieldOff_of Tryz.underlying25 rfl inf5 (by decide) rfl
theorem off25_1 : fieldOff Tryz.prog 25 1 = some 1 := fieldOff_of Tryz.underlying25 rfl inf3 (by decide) rfl
theorem off25_2 : fieldOff Tryz.prog 25 2 = some 2 := fieldOff_of Tryz.underlying25 rfl inf9 (by decide) rfl
theorem off25_3 : fieldOff Tryz.prog 25 3 = some 3 := fieldOff_of Tryz.underlying25 rfl inf22 (by decide) rfl
theorem off25_4 : fieldOff Tryz.prog 25 4 = some 4 := fieldOff_of Tryz.underlying25 rfl inf23 (by decide) rfl
theorem sli33 : sliceInfo Tryz.prog 33 = some (Tryz.t9, 9) := sliceInfo_of Tryz.underlying33 inf9
theorem b1_33 : build1OK Tryz.prog 33 = true := build1OK_of sli33 rfl
theorem es33 : elemSize Tryz.prog 33 = 1 := elemSize_of sli33 rfl
theorem sli34 : sliceInfo Tryz.prog 34 = some (Tryz.t3, 3) := sliceInfo_of Tryz.underlying34 inf3
theorem b1_34 : build1OK Tryz.prog 34 = true := build1OK_of sli34 rfl
theorem es34 : elemSize Tryz.prog 34 = 1 := elemSize_of sli34 rfl
theorem sli59 : sliceInfo Tryz.prog 59 = some (Tryz.t81, 81) := sliceInfo_of Tryz.underlying59 inf81
theorem b1_59 : build1OK Tryz.prog 59 = true := build1OK_of sli59 rfl
theorem es59 : elemSize Tryz.prog 59 = 5 := elemSize_of sli59 rfl
theorem off62_0 : fieldOff Tryz.prog 62 0 = some 0 := fieldOff_of Tryz.underlying62 rfl inf59 (by decide) rfl
theorem off62_1 : fieldOff Tryz.prog 62 1 = some 1 := fieldOff_of Tryz.underlying62 rfl inf3 (by decide) rfl
theorem off62_2 : fieldOff Tryz.prog 62 2 = some 2 := fieldOff_of Tryz.underlying62 rfl inf3 (by decide) rfl
theorem off63_0 : fieldOff Tryz.prog 63 0 = some 0 := fieldOff_of Tryz.underlying63 rfl inf59 (by decide) rfl
theorem off63_1 : fieldOff Tryz.prog 63 1 = some 1 := fieldOff_of Tryz.underlying63 rfl inf3 (by decide) rfl
theorem off63_2 : fieldOff Tryz.prog 63 2 = some 2 := fieldOff_of Tryz.underlying63 rfl inf3 (by decide) rfl
theorem off64_0 : fieldOff Tryz.prog 64 0 = some 0 := fieldOff_of Tryz.underlying64 rfl inf63 (by decide) rfl
theorem off64_1 : fieldOff Tryz.prog 64 1 = some 3 := fieldOff_of Tryz.underlying64 rfl inf3 (by decide) rfl
theorem off65_0 : fieldOff Tryz.prog 65 0 = some 0 := fieldOff_of Tryz.underlying65 rfl inf63 (by decide) rfl
theorem off65_1 : fieldOff Tryz.prog 65 1 = some 3 := fieldOff_of Tryz.underlying65 rfl inf3 (by decide) rfl
theorem off66_0 : fieldOff Tryz.prog 66 0 = some 0 := fieldOff_of Tryz.underlying66 rfl inf3 (by decide) rfl
theorem off66_1 : fieldOff Tryz.prog 66 1 = some 1 := fieldOff_of Tryz.underlying66 rfl inf28 (by decide) rfl
theorem off67_0 : fieldOff Tryz.prog 67 0 = some 0 := fieldOff_of Tryz.underlying67 rfl inf3 (by decide) rfl
theorem off67_1 : fieldOff Tryz.prog 67 1 = some 1 := fieldOff_of Tryz.underlying67 rfl inf28 (by decide) rfl
theorem sli71 : sliceInfo Tryz.prog 71 = some (Tryz.t46, 46) := sliceInfo_of Tryz.underlying71 inf46
theorem b1_71 : build1OK Tryz.prog 71 = true := build1OK_of sli71 rfl
theorem es71 : elemSize Tryz.prog 71 = 1 := elemSize_of sli71 rfl
theorem off78_0 : fieldOff Tryz.prog 78 0 = some 0 := fieldOff_of Tryz.underlying78 rfl inf9 (by decide) rfl
theorem off78_1 : fieldOff Tryz.prog 78 1 = some 1 := fieldOff_of Tryz.underlying78 rfl inf3 (by decide) rfl
theorem off79_0 : fieldOff Tryz.prog 79 0 = some 0 := fieldOff_of Tryz.underlying79 rfl inf9 (by decide) rfl
theorem off79_1 : fieldOff Tryz.prog 79 1 = some 1 := fieldOff_of Tryz.underlying79 rfl inf3 (by decide) rfl
theorem off80_0 : fieldOff Tryz.prog 80 0 = some 0 := fieldOff_of Tryz.underlying80 rfl inf5 (by decide) rfl
theorem off80_1 : fieldOff Tryz.prog 80 1 = some 1 := fieldOff_of Tryz.underlying80 rfl inf9 (by decide) rfl
theorem off80_2 : fieldOff Tryz.prog 80 2 = some 2 := fieldOff_of Tryz.underlying80 rfl inf22 (by decide) rfl
theorem off80_3 : fieldOff Tryz.prog 80 3 = some 3 := fieldOff_of Tryz.underlying80 rfl inf3 (by decide) rfl
theorem off80_4 : fieldOff Tryz.prog 80 4 = some 4 := fieldOff_of Tryz.underlying80 rfl inf3 (by decide) rfl
theorem off81_0 : fieldOff Tryz.prog 81 0 = some 0 := fieldOff_of Tryz.underlying81 rfl inf5 (by decide) rfl
theorem off81_1 : fieldOff Tryz.prog 81 1 = some 1 := fieldOff_of Tryz.underlying81 rfl inf9 (by decide) rfl
theorem off81_2 : fieldOff Tryz.prog 81 2 = some 2 := fieldOff_of Tryz.underlying81 rfl inf22 (by decide) rfl
theorem off81_3 : fieldOff Tryz.prog 81 3 = some 3 := fieldOff_of Tryz.underlying81 rfl inf3 (by decide) rfl
theorem off81_4 : fieldOff Tryz.prog 81 4 = some 4 := fieldOff_of Tryz.underlying81 rfl inf3 (by decide) rfl
theorem off82_0 : fieldOff Tryz.prog 82 0 = some 0 := fieldOff_of Tryz.underlying82 rfl inf3 (by decide) rfl
theorem off82_1 : fieldOff Tryz.prog 82 1 = some 1 := fieldOff_of Tryz.underlying82 rfl inf28 (by decide) rfl
theorem off83_0 : fieldOff Tryz.prog 83 0 = some 0 := fieldOff_of Tryz.underlying83 rfl inf3 (by decide) rfl
theorem off83_1 : fieldOff Tryz.prog 83 1 = some 1 := fieldOff_of Tryz.underlying83 rfl inf28 (by decide) rfl
theorem sli105 : sliceInfo Tryz.prog 105 = some (Tryz.t5, 5) := sliceInfo_of Tryz.underlying105 inf5
theorem b1_105 : build1OK Tryz.prog 105 = true := build1OK_of sli105 rfl
theorem es105 : elemSize Tryz.prog 105 = 1 := elemSize_of sli105 rfl
theorem off107_0 : fieldOff Tryz.prog 107 0 = some 0 := fieldOff_of Tryz.underlying107 rfl inf106 (by decide) rfl
theorem off107_1 : fieldOff Tryz.prog 107 1 = some 1 := fieldOff_of Tryz.underlying107 rfl inf105 (by decide) rfl
theorem off108_0 : fieldOff Tryz.prog 108 0 = some 0 := fieldOff_of Tryz.underlying108 rfl inf106 (by decide) rfl
theorem off108_1 : fieldOff Tryz.prog 108 1 = some 1 := fieldOff_of Tryz.underlying108 rfl inf105 (by decide) rfl
theorem off123_0 : fieldOff Tryz.prog 123 0 = some 0 := fieldOff_of Tryz.underlying123 rfl inf17 (by decide) rfl
theorem off123_1 : fieldOff Tryz.prog 123 1 = some 1 := fieldOff_of Tryz.underlying123 rfl inf17 (by decide) rfl
theorem off123_2 : fieldOff Tryz.prog 123 2 = some 2 := fieldOff_of Tryz.underlying123 rfl inf17 (by decide) rfl
theorem off123_3 : fieldOff Tryz.prog 123 3 = some 3 := fieldOff_of Tryz.underlying123 rfl inf9 (by decide) rfl
theorem off124_0 : fieldOff Tryz.prog 124 0 = some 0 := fieldOff_of Tryz.underlying124 rfl inf17 (by decide) rfl
theorem off124_1 : fieldOff Tryz.prog 124 1 = some 1 := fieldOff_of Tryz.underlying124 rfl inf17 (by decide) rfl
theorem off124_2 : fieldOff Tryz.prog 124 2 = some 2 := fieldOff_of Tryz.underlying124 rfl inf17 (by decide) rfl
theorem off124_3 : fieldOff Tryz.prog 124 3 = some 3 := fieldOff_of Tryz.underlying124 rfl inf9 (by decide) rfl
theorem off134_0 : fieldOff Tryz.prog 134 0 = some 0 := fieldOff_of Tryz.underlying134 rfl inf12 (by decide) rfl
theorem off134_1 : fieldOff Tryz.prog 134 1 = some 1 := fieldOff_of Tryz.underlying134 rfl inf12 (by decide) rfl
theorem off134_2 : fieldOff Tryz.prog 134 2 = some 2 := fieldOff_of Tryz.underlying134 rfl inf128 (by decide) rfl
theorem off134_3 : fieldOff Tryz.prog 134 3 = some 3 := fieldOff_of Tryz.underlying134 rfl inf129 (by decide) rfl
theorem off134_4 : fieldOff Tryz.prog 134 4 = some 4 := fieldOff_of Tryz.underlying134 rfl inf5 (by decide) rfl
theorem off134_5 : fieldOff Tryz.prog 134 5 = some 5 := fieldOff_of Tryz.underlying134 rfl inf5 (by decide) rfl
theorem off134_6 : fieldOff Tryz.prog 134 6 = some 6 := fieldOff_of Tryz.underlying134 rfl inf130 (by decide) rfl
theorem off134_7 : fieldOff Tryz.prog 134 7 = some 7 := fieldOff_of Tryz.underlying134 rfl inf131 (by decide) rfl
theorem off134_8 : fieldOff Tryz.prog 134 8 = some 8 := fieldOff_of Tryz.underlying134 rfl inf116 (by decide) rfl
theorem off134_9 : fieldOff Tryz.prog 134 9 = some 9 := fieldOff_of Tryz.underlying134 rfl inf132 (by decide) rfl
theorem off134_10 : fieldOff Tryz.prog 134 10 = some 10 := fieldOff_of Tryz.underlying134 rfl inf133 (by decide) rfl
theorem off135_0 : fieldOff Tryz.prog 135 0 = some 0 := fieldOff_of Tryz.underlying135 rfl inf12 (by decide) rfl
theorem off135_1 : fieldOff Tryz.prog 135 1 = some 1 := fieldOff_of Tryz.underlying135 rfl inf12 (by decide) rfl
theorem off135_2 : fieldOff Tryz.prog 135 2 = some 2 := fieldOff_of Tryz.underlying135 rfl inf128 (by decide) rfl
theorem off135_3 : fieldOff Tryz.prog 135 3 = some 3 := fieldOff_of Tryz.underlying135 rfl inf129 (by decide) rfl
theorem off135_4 : fieldOff Tryz.prog 135 4 = some 4 := fieldOff_of Tryz.underlying135 rfl inf5 (by decide) rfl
theorem off135_5 : fieldOff Tryz.prog 135 5 = some 5 := fieldOff_of Tryz.underlying135 rfl inf5 (by decide) rfl
theorem off135_6 : fieldOff Tryz.prog 135 6 = some 6 := fieldOff_of Tryz.underlying135 rfl inf130 (by decide) rfl
theorem off135_7 : fieldOff Tryz.prog 135 7 = some 7 := fieldOff_of Tryz.underlying135 rfl inf131 (by decide) rfl
theorem off135_8 : fieldOff Tryz.prog 135 8 = some 8 := fieldOff_of Tryz.underlying135 rfl inf116 (by decide) rfl
theorem off135_9 : fieldOff Tryz.prog 135 9 = some 9 := fieldOff_of Tryz.underlying135 rfl inf132 (by decide) rfl
theorem off135_10 : fieldOff Tryz.prog 135 10 = some 10 := fieldOff_of Tryz.underlying135 rfl inf133 (by decide) rfl
theorem en2 : enterB Tryz.prog 2 = true := enterB_of Tryz.func2 rfl
theorem en3 : enterB Tryz.prog 3 = true := enterB_of Tryz.func3 rfl
theorem en4 : enterB Tryz.prog 4 = true := enterB_of Tryz.func4 rfl
theorem en5 : enterB Tryz.prog 5 = true := enterB_of Tryz.func5 rfl
theorem en6 : enterB Tryz.prog 6 = true := enterB_of Tryz.func6 rfl
theorem en7 : enterB Tryz.prog 7 = true := enterB_of Tryz.func7 rfl
theorem en8 : enterB Tryz.prog 8 = true := enterB_of Tryz.func8 rfl
theorem en9 : enterB Tryz.prog 9 = true := enterB_of Tryz.func9 rfl
theorem en10 : enterB Tryz.prog 10 = true := enterB_of Tryz.func10 rfl
theorem en11 : enterB Tryz.prog 11 = true := enterB_of Tryz.func11 rfl
theorem en12 : enterB Tryz.prog 12 = true := enterB_of Tryz.func12 rfl
theorem en13 : enterB Tryz.prog 13 = true := enterB_of Tryz.func13 rfl
theorem en14 : enterB Tryz.prog 14 = true := enterB_of Tryz.func14 rfl
theorem en15 : enterB Tryz.prog 15 = true := enterB_of Tryz.func15 rfl
theorem en16 : enterB Tryz.prog 16 = true := enterB_of Tryz.func16 rfl
theorem en17 : enterB Tryz.prog 17 = true := enterB_of Tryz.func17 rfl
theorem en18 : enterB Tryz.prog 18 = true := enterB_of Tryz.func18 rfl
theorem en19 : enterB Tryz.prog 19 = true := enterB_of Tryz.func19 rfl
theorem en20 : enterB Tryz.prog 20 = true := enterB_of Tryz.func20 rfl
theorem en21 : enterB Tryz.prog 21 = true := enterB_of Tryz.func21 rfl
theorem en22 : enterB Tryz.prog 22 = true := enterB_of Tryz.func22 rfl
theorem en23 : enterB Tryz.prog 23 = true := enterB_of Tryz.func23 rfl
theorem en24 : enterB Tryz.prog 24 = true := enterB_of Tryz.func24 rfl
theorem en25 : enterB Tryz.prog 25 = true := enterB_of Tryz.func25 rfl
theorem en26 : enterB Tryz.prog 26 = true := enterB_of Tryz.func26 rfl
theorem en27 : enterB Tryz.prog 27 = true := enterB_of Tryz.func27 rfl
theorem en28 : enterB Tryz.prog 28 = true := enterB_of Tryz.func28 rfl
theorem en29 : enterB Tryz.prog 29 = true := enterB_of Tryz.func29 rfl
theorem en30 : enterB Tryz.prog 30 = true := enterB_of Tryz.func30 rfl
theorem en31 : enterB Tryz.prog 31 = true := enterB_of Tryz.func31 rfl
theorem en32 : enterB Tryz.prog 32 = true := enterB_of Tryz.func32 rfl
theorem en33 : enterB Tryz.prog 33 = true := enterB_of Tryz.func33 rfl
theorem en34 : enterB Tryz.prog 34 = true := enterB_of Tryz.func34 rfl
theorem en35 : enterB Tryz.prog 35 = true := enterB_of Tryz.func35 rfl
theorem en36 : enterB Tryz.prog 36 = true := enterB_of Tryz.func36 rfl
theorem en37 : enterB Tryz.prog 37 = true := enterB_of Tryz.func37 rfl
theorem en38 : enterB Tryz.prog 38 = true := enterB_of Tryz.func38 rfl
theorem en39 : enterB Tryz.prog 39 = true := enterB_of Tryz.func39 rfl
theorem en40 : enterB Tryz.prog 40 = true := enterB_of Tryz.func40 rfl
theorem en41 : enterB Tryz.prog 41 = true := enterB_of Tryz.func41 rfl
theorem en42 : enterB Tryz.prog 42 = true := enterB_of Tryz.func42 rfl
theorem en43 : enterB Tryz.prog 43 = true := enterB_of Tryz.func43 rfl
theorem en44 : enterB Tryz.prog 44 = true := enterB_of Tryz.func44 rfl
theorem en45 : enterB Tryz.prog 45 = true := enterB_of Tryz.func45 rfl
theorem en46 : enterB Tryz.prog 46 = true := enterB_of Tryz.func46 rfl
theorem en47 : enterB Tryz.prog 47 = true := enterB_of Tryz.func47 rfl
theorem en48 : enterB Tryz.prog 48 = true := enterB_of Tryz.func48 rfl
theorem en49 : enterB Tryz.prog 49 = true := enterB_of Tryz.func49 rfl
theorem en50 : enterB Tryz.prog 50 = true := enterB_of Tryz.func50 rfl
theorem en51 : enterB Tryz.prog 51 = true := enterB_of Tryz.func51 rfl
theorem en52 : enterB Tryz.prog 52 = true := enterB_of Tryz.func52 rfl
theorem en53 : enterB Tryz.prog 53 = true := enterB_of Tryz.func53 rfl
theorem en54 : enterB Tryz.prog 54 = true := enterB_of Tryz.func54 rfl
theorem en55 : enterB Tryz.prog 55 = true := enterB_of Tryz.func55 rfl
theorem en56 : enterB Tryz.prog 56 = true := enterB_of Tryz.func56 rfl
theorem en57 : enterB Tryz.prog 57 = true := enterB_of Tryz.func57 rfl
theorem en58 : enterB Tryz.prog 58 = true := enterB_of Tryz.func58 rfl
theorem en59 : enterB Tryz.prog 59 = true := enterB_of Tryz.func59 rfl
theorem en60 : enterB Tryz.prog 60 = true := enterB_of Tryz.func60 rfl
theorem en61 : enterB Tryz.prog 61 = true := enterB_of Tryz.func61 rfl
theorem en62 : enterB Tryz.prog 62 = true := enterB_of Tryz.func62 rfl
theorem en63 : enterB Tryz.prog 63 = true := enterB_of Tryz.func63 rfl
theorem en64 : enterB Tryz.prog 64 = true := enterB_of Tryz.func64 rfl
theorem en65 : enterB Tryz.prog 65 = true := enterB_of Tryz.func65 rfl
theorem en66 : enterB Tryz.prog 66 = true := enterB_of Tryz.func66 rfl
theorem en67 : enterB Tryz.prog 67 = true := enterB_of Tryz.func67 rfl
theorem en68 : enterB Tryz.prog 68 = true := enterB_of Tryz.func68 rfl
theorem en69 : enterB Tryz.prog 69 = true := enterB_of Tryz.func69 rfl
theorem en70 : enterB Tryz.prog 70 = true := enterB_of Tryz.func70 rfl
theorem en71 : enterB Tryz.prog 71 = true := enterB_of Tryz.func71 rfl
theorem en72 : enterB Tryz.prog 72 = true := enterB_of Tryz.func72 rfl
theorem en73 : enterB Tryz.prog 73 = true := enterB_of Tryz.func73 rfl
theorem en74 : enterB Tryz.prog 74 = true := enterB_of Tryz.func74 rfl
theorem en75 : enterB Tryz.prog 75 = true := enterB_of Tryz.func75 rfl
theorem en76 : enterB Tryz.prog 76 = true := enterB_of Tryz.func76 rfl
theorem en77 : enterB Tryz.prog 77 = true := enterB_of Tryz.func77 rfl
theorem en78 : enterB Tryz.prog 78 = true := enterB_of Tryz.func78 rfl
theorem en79 : enterB Tryz.prog 79 = true := enterB_of Tryz.func79 rfl
theorem en80 : enterB Tryz.prog 80 = true := enterB_of Tryz.func80 rfl
theorem en81 : enterB Tryz.prog 81 = true := enterB_of Tryz.func81 rfl
theorem en82 : enterB Tryz.prog 82 = true := enterB_of Tryz.func82 rfl
theorem en83 : enterB Tryz.prog 83 = true := enterB_of Tryz.func83 rfl
theorem en84 : enterB Tryz.prog 84 = true := enterB_of Tryz.func84 rfl
theorem en85 : enterB Tryz.prog 85 = true := enterB_of Tryz.func85 rfl
theorem en86 : enterB Tryz.prog 86 = true := enterB_of Tryz.func86 rfl
theorem en87 : enterB Tryz.prog 87 = true := enterB_of Tryz.func87 rfl
theorem en88 : enterB Tryz.prog 88 = true := enterB_of Tryz.func88 rfl
theorem en89 : enterB Tryz.prog 89 = true := enterB_of Tryz.func89 rfl
theorem en90 : enterB Tryz.prog 90 = true := enterB_of Tryz.func90 rfl
theorem en91 : enterB Tryz.prog 91 = true := enterB_of Tryz.func91 rfl
theorem en92 : enterB Tryz.prog 92 = true := enterB_of Tryz.func92 rfl
theorem en93 : enterB Tryz.prog 93 = true := enterB_of Tryz.func93 rfl
theorem en94 : enterB Tryz.prog 94 = true := enterB_of Tryz.func94 rfl
theorem en95 : enterB Tryz.prog 95 = true := enterB_of Tryz.func95 rfl
theorem en96 : enterB Tryz.prog 96 = true := enterB_of Tryz.func96 rfl
theorem en97 : enterB Tryz.prog 97 = true := enterB_of Tryz.func97 rfl
theorem en98 : enterB Tryz.prog 98 = true := enterB_of Tryz.func98 rfl
theorem en99 : enterB Tryz.prog 99 = true := enterB_of Tryz.func99 rfl
theorem en100 : enterB Tryz.prog 100 = true := enterB_of Tryz.func100 rfl
theorem en101 : enterB Tryz.prog 101 = true := enterB_of Tryz.func101 rfl
theorem en102 : enterB Tryz.prog 102 = true := enterB_of Tryz.func102 rfl
theorem en103 : enterB Tryz.prog 103 = true := enterB_of Tryz.func103 rfl
theorem en104 : enterB Tryz.prog 104 = true := enterB_of Tryz.func104 rfl
theorem en105 : enterB Tryz.prog 105 = true := enterB_of Tryz.func105 rfl
theorem en106 : enterB Tryz.prog 106 = true := enterB_of Tryz.func106 rfl
theorem en107 : enterB Tryz.prog 107 = true := enterB_of Tryz.func107 rfl
theorem en108 : enterB Tryz.prog 108 = true := enterB_of Tryz.func108 rfl
theorem en109 : enterB Tryz.prog 109 = true := enterB_of Tryz.func109 rfl
theorem en110 : enterB Tryz.prog 110 = true := enterB_of Tryz.func110 rfl
theorem en111 : enterB Tryz.prog 111 = true := enterB_of Tryz.func111 rfl
theorem en112 : enterB Tryz.prog 112 = true := enterB_of Tryz.func112 rfl
theorem en113 : enterB Tryz.prog 113 = true := enterB_of Tryz.func113 rfl
theorem en114 : enterB Tryz.prog 114 = true := enterB_of Tryz.func114 rfl
theorem en115 : enterB Tryz.prog 115 = true := enterB_of Tryz.func115 rfl
theorem en116 : enterB Tryz.prog 116 = true := enterB_of Tryz.func116 rfl
theorem en117 : enterB Tryz.prog 117 = true := enterB_of Tryz.func117 rfl
theorem en118 : enterB Tryz.prog 118 = true := enterB_of Tryz.func118 rfl
theorem en119 : enterB Tryz.prog 119 = true := enterB_of Tryz.func119 rfl
theorem en120 : enterB Tryz.prog 120 = true := enterB_of Tryz.func120 rfl
theorem en121 : enterB Tryz.prog 121 = true := enterB_of Tryz.func121 rfl
theorem en122 : enterB Tryz.prog 122 = true := enterB_of Tryz.func122 rfl
theorem en123 : enterB Tryz.prog 123 = true := enterB_of Tryz.func123 rfl
theorem en124 : enterB Tryz.prog 124 = true := enterB_of Tryz.func124 rfl
theorem en125 : enterB Tryz.prog 125 = true := enterB_of Tryz.func125 rfl
theorem en126 : enterB Tryz.prog 126 = true := enterB_of Tryz.func126 rfl
theorem en127 : enterB Tryz.prog 127 = true := enterB_of Tryz.func127 rfl
theorem en128 : enterB Tryz.prog 128 = true := enterB_of Tryz.func128 rfl
theorem en129 : enterB Tryz.prog 129 = true := enterB_of Tryz.func129 rfl
theorem en130 : enterB Tryz.prog 130 = true := enterB_of Tryz.func130 rfl
theorem en131 : enterB Tryz.prog 131 = true := enterB_of Tryz.func131 rfl
theorem en132 : enterB Tryz.prog 132 = true := enterB_of Tryz.func132 rfl
theorem en133 : enterB Tryz.prog 133 = true := enterB_of Tryz.func133 rfl
theorem en134 : enterB Tryz.prog 134 = true := enterB_of Tryz.func134 rfl
theorem en135 : enterB Tryz.prog 135 = true := enterB_of Tryz.func135 rfl
theorem en137 : enterB Tryz.prog 137 = true := enterB_of Tryz.func137 rfl
theorem en138 : enterB Tryz.prog 138 = true := enterB_of Tryz.func138 rfl
theorem en139 : enterB Tryz.prog 139 = true := enterB_of Tryz.func139 rfl
theorem en140 : enterB Tryz.prog 140 = true := enterB_of Tryz.func140 rfl
theorem en141 : enterB Tryz.prog 141 = true := enterB_of Tryz.func141 rfl
theorem en142 : enterB Tryz.prog 142 = true := enterB_of Tryz.func142 rfl
theorem en143 : enterB Tryz.prog 143 = true := enterB_of Tryz.func143 rfl
theorem en144 : enterB Tryz.prog 144 = true := enterB_of Tryz.func144 rfl
theorem en145 : enterB Tryz.prog 145 = true := enterB_of Tryz.func145 rfl
theorem en146 : enterB Tryz.prog 146 = true := enterB_of Tryz.func146 rfl
theorem en148 : enterB Tryz.prog 148 = true := enterB_of Tryz.func148 rfl
theorem en149 : enterB Tryz.prog 149 = true := enterB_of Tryz.func149 rfl
theorem en150 : enterB Tryz.prog 150 = true := enterB_of Tryz.func150 rfl
theorem en151 : enterB Tryz.prog 151 = true := enterB_of Tryz.func151 rfl
theorem en152 : enterB Tryz.prog 152 = true := enterB_of Tryz.func152 rfl
theorem en153 : enterB Tryz.prog 153 = true := enterB_of Tryz.func153 rfl

end B
end Go.Proofs.YtejmgafhfbkbnaaGreat

namespace Go.Proofs.YtejmgafhfbkbnaaGreat
namespace B
open Go Go.Proofs

/-- A table in rows of sixteen. -/
def tabGet {α : Type} (L : List (List (Option α))) (t : Nat) : Option α := match L[t / 16]? with
  | some l => match l[t % 16]? with
    | some (some x) => some x
    | _ => none
  | none => none
def AllAt {α : Type} (Q : Nat → α → Prop) : Nat → List α → Prop
  | _, [] => True
  | k, x :: l => Q k x ∧ AllAt Q (k + 1) l
theorem AllAt.of {α : Type} {Q : Nat → α → Prop} : ∀ {l : List α} {k i : Nat} {x : α}, AllAt Q k l → l[i]? = some x → Q (k + i) x
  | y :: l, k, 0, x, h, e => by simp at e; subst e; exact h.1
  | y :: l, k, i + 1, x, h, e => by
    have := AllAt.of h.2 (i := i) (by simpa using e)
    rwa [show k + 1 + i = k + (i + 1) by omega] at this
def TabAll {α : Type} (Q : Nat → α → Prop) (L : List (List (Option α))) : Prop := AllAt (fun a l => AllAt (fun b (x : Option α) => ∀ y, x = some y → Q (16 * a + b) y) 0 l) 0 L
theorem TabAll.of {α : Type} {Q : Nat → α → Prop} {L : List (List (Option α))} (h : TabAll Q L) {t : Nat} {x : α} (e : tabGet L t = some x) : Q t x := by
  unfold tabGet at e
  split at e
  case h_2 => simp at e
  rename_i l hl
  split at e
  case h_2 => simp at e
  rename_i y hy
  simp only [Option.some.injEq] at e
  subst e
  have h1 := AllAt.of h hl
  rw [Nat.zero_add] at h1
  have h2 := AllAt.of h1 hy _ rfl
  rw [Nat.zero_add] at h2
  rwa [Nat.div_add_mod] at h2
theorem tab_some {α : Type} {Q : α → Prop} {x : α} (h : Q x) : ∀ y, some x = some y → Q y := by
  intro y e; simp only [Option.some.injEq] at e; subst e; exact h
theorem tab_none {α : Type} {Q : α → Prop} : ∀ y, (none : Option α) = some y → Q y := fun _ e => nomatch e

set_option maxRecDepth 10000
noncomputable def tabUnd : List (List (Option TypeDesc)) :=
   [[none, some Tryz.t1.desc, some Tryz.t2.desc, some Tryz.t3.desc, some Tryz.t4.desc, some Tryz.t5.desc, some Tryz.t5.desc, some Tryz.t7.desc, some Tryz.t7.desc, some Tryz.t9.desc, some Tryz.t9.desc, some Tryz.t9.desc, some Tryz.t12.desc, some Tryz.t13.desc, some Tryz.t13.desc, some Tryz.t15.desc],
    [some Tryz.t16.desc, some Tryz.t17.desc, some Tryz.t18.desc, some Tryz.t18.desc, some Tryz.t20.desc, some Tryz.t21.desc, some Tryz.t22.desc, some Tryz.t23.desc, some Tryz.t24.desc, some Tryz.t24.desc, some Tryz.t26.desc, some Tryz.t27.desc, some Tryz.t3.desc, some Tryz.t29.desc, some Tryz.t30.desc, some Tryz.t31.desc],
    [some Tryz.t32.desc, some Tryz.t33.desc, some Tryz.t34.desc, some Tryz.t35.desc, none, some Tryz.t37.desc, some Tryz.t38.desc, some Tryz.t39.desc, some Tryz.t40.desc, some Tryz.t41.desc, some Tryz.t42.desc, some Tryz.t43.desc, some Tryz.t44.desc, some Tryz.t45.desc, some Tryz.t32.desc, some Tryz.t47.desc],
    [some Tryz.t48.desc, some Tryz.t49.desc, some Tryz.t50.desc, none, some Tryz.t52.desc, some Tryz.t53.desc, some Tryz.t54.desc, some Tryz.t55.desc, some Tryz.t56.desc, some Tryz.t57.desc, some Tryz.t58.desc, some Tryz.t59.desc, none, some Tryz.t61.desc, some Tryz.t62.desc, some Tryz.t62.desc],
    [some Tryz.t64.desc, some Tryz.t64.desc, some Tryz.t66.desc, some Tryz.t66.desc, none, some Tryz.t69.desc, some Tryz.t70.desc, some Tryz.t71.desc, some Tryz.t72.desc, some Tryz.t73.desc, some Tryz.t74.desc, some Tryz.t75.desc, some Tryz.t76.desc, some Tryz.t77.desc, some Tryz.t78.desc, some Tryz.t78.desc],
    [some Tryz.t80.desc, some Tryz.t80.desc, some Tryz.t82.desc, some Tryz.t82.desc, some Tryz.t84.desc, none, some Tryz.t86.desc, some Tryz.t87.desc, some Tryz.t88.desc, some Tryz.t89.desc, some Tryz.t90.desc, some Tryz.t91.desc, some Tryz.t92.desc, some Tryz.t93.desc, some Tryz.t94.desc, none],
    [some Tryz.t96.desc, some Tryz.t97.desc, some Tryz.t98.desc, some Tryz.t99.desc, some Tryz.t100.desc, some Tryz.t101.desc, some Tryz.t102.desc, some Tryz.t103.desc, some Tryz.t104.desc, some Tryz.t105.desc, some Tryz.t106.desc, some Tryz.t107.desc, some Tryz.t107.desc, none, some Tryz.t110.desc, some Tryz.t111.desc],
    [some Tryz.t111.desc, some Tryz.t113.desc, some Tryz.t114.desc, some Tryz.t115.desc, some Tryz.t116.desc, some Tryz.t117.desc, some Tryz.t118.desc, some Tryz.t119.desc, some Tryz.t120.desc, some Tryz.t121.desc, some Tryz.t122.desc, some Tryz.t123.desc, some Tryz.t123.desc, some Tryz.t125.desc, some Tryz.t126.desc, some Tryz.t126.desc],
    [some Tryz.t128.desc, some Tryz.t5.desc, some Tryz.t5.desc, some Tryz.t131.desc, some Tryz.t21.desc, some Tryz.t21.desc, some Tryz.t134.desc, some Tryz.t134.desc]]
noncomputable def tabInfo : List (List (Option TypeInfo)) :=
   [[some Tryz.t0, some Tryz.t1, some Tryz.t2, some Tryz.t3, some Tryz.t4, some Tryz.t5, some Tryz.t6, some Tryz.t7, some Tryz.t8, some Tryz.t9, some Tryz.t10, some Tryz.t11, some Tryz.t12, some Tryz.t13, some Tryz.t14, some Tryz.t15],
    [some Tryz.t16, some Tryz.t17, some Tryz.t18, some Tryz.t19, some Tryz.t20, some Tryz.t21, some Tryz.t22, some Tryz.t23, some Tryz.t24, some Tryz.t25, some Tryz.t26, some Tryz.t27, some Tryz.t28, some Tryz.t29, some Tryz.t30, some Tryz.t31],
    [some Tryz.t32, some Tryz.t33, some Tryz.t34, some Tryz.t35, some Tryz.t36, some Tryz.t37, some Tryz.t38, some Tryz.t39, some Tryz.t40, some Tryz.t41, some Tryz.t42, some Tryz.t43, some Tryz.t44, some Tryz.t45, some Tryz.t46, some Tryz.t47],
    [some Tryz.t48, some Tryz.t49, some Tryz.t50, some Tryz.t51, some Tryz.t52, some Tryz.t53, some Tryz.t54, some Tryz.t55, some Tryz.t56, some Tryz.t57, some Tryz.t58, some Tryz.t59, some Tryz.t60, some Tryz.t61, some Tryz.t62, some Tryz.t63],
    [some Tryz.t64, some Tryz.t65, some Tryz.t66, some Tryz.t67, some Tryz.t68, some Tryz.t69, some Tryz.t70, some Tryz.t71, some Tryz.t72, some Tryz.t73, some Tryz.t74, some Tryz.t75, some Tryz.t76, some Tryz.t77, some Tryz.t78, some Tryz.t79],
    [some Tryz.t80, some Tryz.t81, some Tryz.t82, some Tryz.t83, some Tryz.t84, some Tryz.t85, some Tryz.t86, some Tryz.t87, some Tryz.t88, some Tryz.t89, some Tryz.t90, some Tryz.t91, some Tryz.t92, some Tryz.t93, some Tryz.t94, some Tryz.t95],
    [some Tryz.t96, some Tryz.t97, some Tryz.t98, some Tryz.t99, some Tryz.t100, some Tryz.t101, some Tryz.t102, some Tryz.t103, some Tryz.t104, some Tryz.t105, some Tryz.t106, some Tryz.t107, some Tryz.t108, some Tryz.t109, some Tryz.t110, some Tryz.t111],
    [some Tryz.t112, some Tryz.t113, some Tryz.t114, some Tryz.t115, some Tryz.t116, some Tryz.t117, some Tryz.t118, some Tryz.t119, some Tryz.t120, some Tryz.t121, some Tryz.t122, some Tryz.t123, some Tryz.t124, some Tryz.t125, some Tryz.t126, some Tryz.t127],
    [some Tryz.t128, some Tryz.t129, some Tryz.t130, some Tryz.t131, some Tryz.t132, some Tryz.t133, some Tryz.t134, some Tryz.t135]]
noncomputable def tabFunc : List (List (Option Func)) :=
   [[none, none, some Tryz.f2, some Tryz.f3, some Tryz.f4, some Tryz.f5, some Tryz.f6, some Tryz.f7, some Tryz.f8, some Tryz.f9, some Tryz.f10, some Tryz.f11, some Tryz.f12, some Tryz.f13, some Tryz.f14, some Tryz.f15],
    [some Tryz.f16, some Tryz.f17, some Tryz.f18, some Tryz.f19, some Tryz.f20, some Tryz.f21, some Tryz.f22, some Tryz.f23, some Tryz.f24, some Tryz.f25, some Tryz.f26, some Tryz.f27, some Tryz.f28, some Tryz.f29, some Tryz.f30, some Tryz.f31],
    [some Tryz.f32, some Tryz.f33, some Tryz.f34, some Tryz.f35, some Tryz.f36, some Tryz.f37, some Tryz.f38, some Tryz.f39, some Tryz.f40, some Tryz.f41, some Tryz.f42, some Tryz.f43, some Tryz.f44, some Tryz.f45, some Tryz.f46, some Tryz.f47],
    [some Tryz.f48, some Tryz.f49, some Tryz.f50, some Tryz.f51, some Tryz.f52, some Tryz.f53, some Tryz.f54, some Tryz.f55, some Tryz.f56, some Tryz.f57, some Tryz.f58, some Tryz.f59, some Tryz.f60, some Tryz.f61, some Tryz.f62, some Tryz.f63],
    [some Tryz.f64, some Tryz.f65, some Tryz.f66, some Tryz.f67, some Tryz.f68, some Tryz.f69, some Tryz.f70, some Tryz.f71, some Tryz.f72, some Tryz.f73, some Tryz.f74, some Tryz.f75, some Tryz.f76, some Tryz.f77, some Tryz.f78, some Tryz.f79],
    [some Tryz.f80, some Tryz.f81, some Tryz.f82, some Tryz.f83, some Tryz.f84, some Tryz.f85, some Tryz.f86, some Tryz.f87, some Tryz.f88, some Tryz.f89, some Tryz.f90, some Tryz.f91, some Tryz.f92, some Tryz.f93, some Tryz.f94, some Tryz.f95],
    [some Tryz.f96, some Tryz.f97, some Tryz.f98, some Tryz.f99, some Tryz.f100, some Tryz.f101, some Tryz.f102, some Tryz.f103, some Tryz.f104, some Tryz.f105, some Tryz.f106, some Tryz.f107, some Tryz.f108, some Tryz.f109, some Tryz.f110, some Tryz.f111],
    [some Tryz.f112, some Tryz.f113, some Tryz.f114, some Tryz.f115, some Tryz.f116, some Tryz.f117, some Tryz.f118, some Tryz.f119, some Tryz.f120, some Tryz.f121, some Tryz.f122, some Tryz.f123, some Tryz.f124, some Tryz.f125, some Tryz.f126, some Tryz.f127],
    [some Tryz.f128, some Tryz.f129, some Tryz.f130, some Tryz.f131, some Tryz.f132, some Tryz.f133, some Tryz.f134, some Tryz.f135, none, some Tryz.f137, some Tryz.f138, some Tryz.f139, some Tryz.f140, some Tryz.f141, some Tryz.f142, some Tryz.f143],
    [some Tryz.f144, some Tryz.f145, some Tryz.f146, none, some Tryz.f148, some Tryz.f149, some Tryz.f150, some Tryz.f151, some Tryz.f152, some Tryz.f153, none, none, none, none, none, none],
    [none, none, none, none, none, none, none, none, none, none, none, none]]
theorem tabUnd_ok : TabAll (fun t d => Program.underlying Tryz.prog t = some d) tabUnd :=
   ⟨⟨tab_none, ⟨tab_some (Q := fun d => Program.underlying Tryz.prog 1 = some d) Tryz.underlying1, ⟨tab_some (Q := fun d => Program.underlying Tryz.prog 2 = some d) Tryz.underlying2, ⟨tab_some (Q := fun d => Program.underlying Tryz.prog 3 = some d) Tryz.underlying3, ⟨tab_some (Q := fun d => Program.underlying Tryz.prog 4 = some d) Tryz.underlying4, ⟨tab_some (Q := fun d => Program.underlying Tryz.prog 5 = some d) Tryz.underlying5, ⟨tab_some (Q := fun d => Program.underlying Tryz.prog 6 = some d) Tryz.underlying6, ⟨tab_some (Q := fun d => Program.underlying Tryz.prog 7 = some d) Tryz.underlying7, ⟨tab_some (Q := fun d => Program.underlying Tryz.prog 8 = some d) Tryz.underlying8, ⟨tab_some (Q := fun d => Program.underlying Tryz.prog 9 = some d) Tryz.underlying9, ⟨tab_some (Q := fun d => Program.underlying Tryz.prog 10 = some d) Tryz.underlying10, ⟨tab_some (Q := fun d => Program.underlying Tryz.prog 11 = some d) Tryz.underlying11, ⟨tab_some (Q := fun d => Program.underlying Tryz.prog 12 = some d) Tryz.underlying12, ⟨tab_some (Q := fun d => Program.underlying Tryz.prog 13 = some d) Tryz.underlying13, ⟨tab_some (Q := fun d => Program.underlying Tryz.prog 14 = some d) Tryz.underlying14, ⟨tab_some (Q := fun d => Program.underlying Tryz.prog 15 = some d) Tryz.underlying15, True.intro⟩⟩⟩⟩⟩⟩⟩⟩⟩⟩⟩⟩⟩⟩⟩⟩,
    ⟨⟨tab_some (Q := fun d => Program.underlying Tryz.prog 16 = some d) Tryz.underlying16, ⟨tab_some (Q := fun d => Program.underlying Tryz.prog 17 = some d) Tryz.underlying17, ⟨tab_some (Q := fun d => Program.underlying Tryz.prog 18 = some d) Tryz.underlying18, ⟨tab_some (Q := fun d => Program.underlying Tryz.prog 19 = some d) Tryz.underlying19, ⟨tab_some (Q := fun d => Program.underlying Tryz.prog 20 = some d) Tryz.underlying20, ⟨tab_some (Q := fun d => Program.underlying Tryz.prog 21 = some d) Tryz.underlying21, ⟨tab_some (Q := fun d => Program.underlying Tryz.prog 22 = some d) Tryz.underlying22, ⟨tab_some (Q := fun d => Program.underlying Tryz.prog 23 = some d) Tryz.underlying23, ⟨tab_some (Q := fun d => Program.underlying Tryz.prog 24 = some d) Tryz.underlying24, ⟨tab_some (Q := fun d => Program.underlying Tryz.prog 25 = some d) Tryz.underlying25, ⟨tab_some (Q := fun d => Program.underlying Tryz.prog 26 = some d) Tryz.underlying26, ⟨tab_some (Q := fun d => Program.underlying Tryz.prog 27 = some d) Tryz.underlying27, ⟨tab_some (Q := fun d => Program.underlying Tryz.prog 28 = some d) Tryz.underlying28, ⟨tab_some (Q := fun d => Program.underlying Tryz.prog 29 = some d) Tryz.underlying29, ⟨tab_some (Q := fun d => Program.underlying Tryz.prog 30 = some d) Tryz.underlying30, ⟨tab_some (Q := fun d => Program.underlying Tryz.prog 31 = some d) Tryz.underlying31, True.intro⟩⟩⟩⟩⟩⟩⟩⟩⟩⟩⟩⟩⟩⟩⟩⟩,
    ⟨⟨tab_some (Q := fun d => Program.underlying Tryz.prog 32 = some d) Tryz.underlying32, ⟨tab_some (Q := fun d => Program.underlying Tryz.prog 33 = some d) Tryz.underlying33, ⟨tab_some (Q := fun d => Program.underlying Tryz.prog 34 = some d) Tryz.underlying34, ⟨tab_some (Q := fun d => Program.underlying Tryz.prog 35 = some d) Tryz.underlying35, ⟨tab_none, ⟨tab_some (Q := fun d => Program.underlying Tryz.prog 37 = some d) Tryz.underlying37, ⟨tab_some (Q := fun d => Program.underlying Tryz.prog 38 = some d) Tryz.underlying38, ⟨tab_some (Q := fun d => Program.underlying Tryz.prog 39 = some d) Tryz.underlying39, ⟨tab_some (Q := fun d => Program.underlying Tryz.prog 40 = some d) Tryz.underlying40, ⟨tab_some (Q := fun d => Program.underlying Tryz.prog 41 = some d) Tryz.underlying41, ⟨tab_some (Q := fun d => Program.underlying Tryz.prog 42 = some d) Tryz.underlying42, ⟨tab_some (Q := fun d => Program.underlying Tryz.prog 43 = some d) Tryz.underlying43, ⟨tab_some (Q := fun d => Program.underlying Tryz.prog 44 = some d) Tryz.underlying44, ⟨tab_some (Q := fun d => Program.underlying Tryz.prog 45 = some d) Tryz.underlying45, ⟨tab_some (Q := fun d => Program.underlying Tryz.prog 46 = some d) Tryz.underlying46, ⟨tab_some (Q := fun d => Program.underlying Tryz.prog 47 = some d) Tryz.underlying47, True.intro⟩⟩⟩⟩⟩⟩⟩⟩⟩⟩⟩⟩⟩⟩⟩⟩,
    ⟨⟨tab_some (Q := fun d => Program.underlying Tryz.prog 48 = some d) Tryz.underlying48, ⟨tab_some (Q := fun d => Program.underlying Tryz.prog 49 = some d) Tryz.underlying49, ⟨tab_some (Q := fun d => Program.underlying Tryz.prog 50 = some d) Tryz.underlying50, ⟨tab_none, ⟨tab_some (Q := fun d => Program.underlying Tryz.prog 52 = some d) Tryz.underlying52, ⟨tab_some (Q := fun d => Program.underlying Tryz.prog 53 = some d) Tryz.underlying53, ⟨tab_some (Q := fun d => Program.underlying Tryz.prog 54 = some d) Tryz.underlying54, ⟨tab_some (Q := fun d => Program.underlying Tryz.prog 55 = some d) Tryz.underlying55, ⟨tab_some (Q := fun d => Program.underlying Tryz.prog 56 = some d) Tryz.underlying56, ⟨tab_some (Q := fun d => Program.underlying Tryz.prog 57 = some d) Tryz.underlying57, ⟨tab_some (Q := fun d => Program.underlying Tryz.prog 58 = some d) Tryz.underlying58, ⟨tab_some (Q := fun d => Program.underlying Tryz.prog 59 = some d) Tryz.underlying59, ⟨tab_none, ⟨tab_some (Q := fun d => Program.underlying Tryz.prog 61 = some d) Tryz.underlying61, ⟨tab_some (Q := fun d => Program.underlying Tryz.prog 62 = some d) Tryz.underlying62, ⟨tab_some (Q := fun d => Program.underlying Tryz.prog 63 = some d) Tryz.underlying63, True.intro⟩⟩⟩⟩⟩⟩⟩⟩⟩⟩⟩⟩⟩⟩⟩⟩,
    ⟨⟨tab_some (Q := fun d => Program.underlying Tryz.prog 64 = some d) Tryz.underlying64, ⟨tab_some (Q := fun d => Program.underlying Tryz.prog 65 = some d) Tryz.underlying65, ⟨tab_some (Q := fun d => Program.underlying Tryz.prog 66 = some d) Tryz.underlying66, ⟨tab_some (Q := fun d => Program.underlying Tryz.prog 67 = some d) Tryz.underlying67, ⟨tab_none, ⟨tab_some (Q := fun d => Program.underlying Tryz.prog 69 = some d) Tryz.underlying69, ⟨tab_some (Q := fun d => Program.underlying Tryz.prog 70 = some d) Tryz.underlying70, ⟨tab_some (Q := fun d => Program.underlying Tryz.prog 71 = some d) Tryz.underlying71, ⟨tab_some (Q := fun d => Program.underlying Tryz.prog 72 = some d) Tryz.underlying72, ⟨tab_some (Q := fun d => Program.underlying Tryz.prog 73 = some d) Tryz.underlying73, ⟨tab_some (Q := fun d => Program.underlying Tryz.prog 74 = some d) Tryz.underlying74, ⟨tab_some (Q := fun d => Program.underlying Tryz.prog 75 = some d) Tryz.underlying75, ⟨tab_some (Q := fun d => Program.underlying Tryz.prog 76 = some d) Tryz.underlying76, ⟨tab_some (Q := fun d => Program.underlying Tryz.prog 77 = some d) Tryz.underlying77, ⟨tab_some (Q := fun d => Program.underlying Tryz.prog 78 = some d) Tryz.underlying78, ⟨tab_some (Q := fun d => Program.underlying Tryz.prog 79 = some d) Tryz.underlying79, True.intro⟩⟩⟩⟩⟩⟩⟩⟩⟩⟩⟩⟩⟩⟩⟩⟩,
    ⟨⟨tab_some (Q := fun d => Program.underlying Tryz.prog 80 = some d) Tryz.underlying80, ⟨tab_some (Q := fun d => Program.underlying Tryz.prog 81 = some d) Tryz.underlying81, ⟨tab_some (Q := fun d => Program.underlying Tryz.prog 82 = some d) Tryz.underlying82, ⟨tab_some (Q := fun d => Program.underlying Tryz.prog 83 = some d) Tryz.underlying83, ⟨tab_some (Q := fun d => Program.underlying Tryz.prog 84 = some d) Tryz.underlying84, ⟨tab_none, ⟨tab_some (Q := fun d => Program.underlying Tryz.prog 86 = some d) Tryz.underlying86, ⟨tab_some (Q := fun d => Program.underlying Tryz.prog 87 = some d) Tryz.underlying87, ⟨tab_some (Q := fun d => Program.underlying Tryz.prog 88 = some d) Tryz.underlying88, ⟨tab_some (Q := fun d => Program.underlying Tryz.prog 89 = some d) Tryz.underlying89, ⟨tab_some (Q := fun d => Program.underlying Tryz.prog 90 = some d) Tryz.underlying90, ⟨tab_some (Q := fun d => Program.underlying Tryz.prog 91 = some d) Tryz.underlying91, ⟨tab_some (Q := fun d => Program.underlying Tryz.prog 92 = some d) Tryz.underlying92, ⟨tab_some (Q := fun d => Program.underlying Tryz.prog 93 = some d) Tryz.underlying93, ⟨tab_some (Q := fun d => Program.underlying Tryz.prog 94 = some d) Tryz.underlying94, ⟨tab_none, True.intro⟩⟩⟩⟩⟩⟩⟩⟩⟩⟩⟩⟩⟩⟩⟩⟩,
    ⟨⟨tab_some (Q := fun d => Program.underlying Tryz.prog 96 = some d) Tryz.underlying96, ⟨tab_some (Q := fun d => Program.underlying Tryz.prog 97 = some d) Tryz.underlying97, ⟨tab_some (Q := fun d => Program.underlying Tryz.prog 98 = some d) Tryz.underlying98, ⟨tab_some (Q := fun d => Program.underlying Tryz.prog 99 = some d) Tryz.underlying99, ⟨tab_some (Q := fun d => Program.underlying Tryz.prog 100 = some d) Tryz.underlying100, ⟨tab_some (Q := fun d => Program.underlying Tryz.prog 101 = some d) Tryz.underlying101, ⟨tab_some (Q := fun d => Program.underlying Tryz.prog 102 = some d) Tryz.underlying102, ⟨tab_some (Q := fun d => Program.underlying Tryz.prog 103 = some d) Tryz.underlying103, ⟨tab_some (Q := fun d => Program.underlying Tryz.prog 104 = some d) Tryz.underlying104, ⟨tab_some (Q := fun d => Program.underlying Tryz.prog 105 = some d) Tryz.underlying105, ⟨tab_some (Q := fun d => Program.underlying Tryz.prog 106 = some d) Tryz.underlying106, ⟨tab_some (Q := fun d => Program.underlying Tryz.prog 107 = some d) Tryz.underlying107, ⟨tab_some (Q := fun d => Program.underlying Tryz.prog 108 = some d) Tryz.underlying108, ⟨tab_none, ⟨tab_some (Q := fun d => Program.underlying Tryz.prog 110 = some d) Tryz.underlying110, ⟨tab_some (Q := fun d => Program.underlying Tryz.prog 111 = some d) Tryz.underlying111, True.intro⟩⟩⟩⟩⟩⟩⟩⟩⟩⟩⟩⟩⟩⟩⟩⟩,
    ⟨⟨tab_some (Q := fun d => Program.underlying Tryz.prog 112 = some d) Tryz.underlying112, ⟨tab_some (Q := fun d => Program.underlying Tryz.prog 113 = some d) Tryz.underlying113, ⟨tab_some (Q := fun d => Program.underlying Tryz.prog 114 = some d) Tryz.underlying114, ⟨tab_some (Q := fun d => Program.underlying Tryz.prog 115 = some d) Tryz.underlying115, ⟨tab_some (Q := fun d => Program.underlying Tryz.prog 116 = some d) Tryz.underlying116, ⟨tab_some (Q := fun d => Program.underlying Tryz.prog 117 = some d) Tryz.underlying117, ⟨tab_some (Q := fun d => Program.underlying Tryz.prog 118 = some d) Tryz.underlying118, ⟨tab_some (Q := fun d => Program.underlying Tryz.prog 119 = some d) Tryz.underlying119, ⟨tab_some (Q := fun d => Program.underlying Tryz.prog 120 = some d) Tryz.underlying120, ⟨tab_some (Q := fun d => Program.underlying Tryz.prog 121 = some d) Tryz.underlying121, ⟨tab_some (Q := fun d => Program.underlying Tryz.prog 122 = some d) Tryz.underlying122, ⟨tab_some (Q := fun d => Program.underlying Tryz.prog 123 = some d) Tryz.underlying123, ⟨tab_some (Q := fun d => Program.underlying Tryz.prog 124 = some d) Tryz.underlying124, ⟨tab_some (Q := fun d => Program.underlying Tryz.prog 125 = some d) Tryz.underlying125, ⟨tab_some (Q := fun d => Program.underlying Tryz.prog 126 = some d) Tryz.underlying126, ⟨tab_some (Q := fun d => Program.underlying Tryz.prog 127 = some d) Tryz.underlying127, True.intro⟩⟩⟩⟩⟩⟩⟩⟩⟩⟩⟩⟩⟩⟩⟩⟩,
    ⟨⟨tab_some (Q := fun d => Program.underlying Tryz.prog 128 = some d) Tryz.underlying128, ⟨tab_some (Q := fun d => Program.underlying Tryz.prog 129 = some d) Tryz.underlying129, ⟨tab_some (Q := fun d => Program.underlying Tryz.prog 130 = some d) Tryz.underlying130, ⟨tab_some (Q := fun d => Program.underlying Tryz.prog 131 = some d) Tryz.underlying131, ⟨tab_some (Q := fun d => Program.underlying Tryz.prog 132 = some d) Tryz.underlying132, ⟨tab_some (Q := fun d => Program.underlying Tryz.prog 133 = some d) Tryz.underlying133, ⟨tab_some (Q := fun d => Program.underlying Tryz.prog 134 = some d) Tryz.underlying134, ⟨tab_some (Q := fun d => Program.underlying Tryz.prog 135 = some d) Tryz.underlying135, True.intro⟩⟩⟩⟩⟩⟩⟩⟩,
    True.intro⟩⟩⟩⟩⟩⟩⟩⟩⟩
theorem tabInfo_ok : TabAll (fun t i => Tables.info? Tryz.prog.toTables t = some i) tabInfo :=
   ⟨⟨tab_some (Q := fun d => Tables.info? Tryz.prog.toTables 0 = some d) inf0, ⟨tab_some (Q := fun d => Tables.info? Tryz.prog.toTables 1 = some d) inf1, ⟨tab_some (Q := fun d => Tables.info? Tryz.prog.toTables 2 = some d) inf2, ⟨tab_some (Q := fun d => Tables.info? Tryz.prog.toTables 3 = some d) inf3, ⟨tab_some (Q := fun d => Tables.info? Tryz.prog.toTables 4 = some d) inf4, ⟨tab_some (Q := fun d => Tables.info? Tryz.prog.toTables 5 = some d) inf5, ⟨tab_some (Q := fun d => Tables.info? Tryz.prog.toTables 6 = some d) inf6, ⟨tab_some (Q := fun d => Tables.info? Tryz.prog.toTables 7 = some d) inf7, ⟨tab_some (Q := fun d => Tables.info? Tryz.prog.toTables 8 = some d) inf8, ⟨tab_some (Q := fun d => Tables.info? Tryz.prog.toTables 9 = some d) inf9, ⟨tab_some (Q := fun d => Tables.info? Tryz.prog.toTables 10 = some d) inf10, ⟨tab_some (Q := fun d => Tables.info? Tryz.prog.toTables 11 = some d) inf11, ⟨tab_some (Q := fun d => Tables.info? Tryz.prog.toTables 12 = some d) inf12, ⟨tab_some (Q := fun d => Tables.info? Tryz.prog.toTables 13 = some d) inf13, ⟨tab_some (Q := fun d => Tables.info? Tryz.prog.toTables 14 = some d) inf14, ⟨tab_some (Q := fun d => Tables.info? Tryz.prog.toTables 15 = some d) inf15, True.intro⟩⟩⟩⟩⟩⟩⟩⟩⟩⟩⟩⟩⟩⟩⟩⟩,
    ⟨⟨tab_some (Q := fun d => Tables.info? Tryz.prog.toTables 16 = some d) inf16, ⟨tab_some (Q := fun d => Tables.info? Tryz.prog.toTables 17 = some d) inf17, ⟨tab_some (Q := fun d => Tables.info? Tryz.prog.toTables 18 = some d) inf18, ⟨tab_some (Q := fun d => Tables.info? Tryz.prog.toTables 19 = some d) inf19, ⟨tab_some (Q := fun d => Tables.info? Tryz.prog.toTables 20 = some d) inf20, ⟨tab_some (Q := fun d => Tables.info? Tryz.prog.toTables 21 = some d) inf21, ⟨tab_some (Q := fun d => Tables.info? Tryz.prog.toTables 22 = some d) inf22, ⟨tab_some (Q := fun d => Tables.info? Tryz.prog.toTables 23 = some d) inf23, ⟨tab_some (Q := fun d => Tables.info? Tryz.prog.toTables 24 = some d) inf24, ⟨tab_some (Q := fun d => Tables.info? Tryz.prog.toTables 25 = some d) inf25, ⟨tab_some (Q := fun d => Tables.info? Tryz.prog.toTables 26 = some d) inf26, ⟨tab_some (Q := fun d => Tables.info? Tryz.prog.toTables 27 = some d) inf27, ⟨tab_some (Q := fun d => Tables.info? Tryz.prog.toTables 28 = some d) inf28, ⟨tab_some (Q := fun d => Tables.info? Tryz.prog.toTables 29 = some d) inf29, ⟨tab_some (Q := fun d => Tables.info? Tryz.prog.toTables 30 = some d) inf30, ⟨tab_some (Q := fun d => Tables.info? Tryz.prog.toTables 31 = some d) inf31, True.intro⟩⟩⟩⟩⟩⟩⟩⟩⟩⟩⟩⟩⟩⟩⟩⟩,
    ⟨⟨tab_some (Q := fun d => Tables.info? Tryz.prog.toTables 32 = some d) inf32, ⟨tab_some (Q := fun d => Tables.info? Tryz.prog.toTables 33 = some d) inf33, ⟨tab_some (Q := fun d => Tables.info? Tryz.prog.toTables 34 = some d) inf34, ⟨tab_some (Q := fun d => Tables.info? Tryz.prog.toTables 35 = some d) inf35, ⟨tab_some (Q := fun d => Tables.info? Tryz.prog.toTables 36 = some d) inf36, ⟨tab_some (Q := fun d => Tables.info? Tryz.prog.toTables 37 = some d) inf37, ⟨tab_some (Q := fun d => Tables.info? Tryz.prog.toTables 38 = some d) inf38, ⟨tab_some (Q := fun d => Tables.info? Tryz.prog.toTables 39 = some d) inf39, ⟨tab_some (Q := fun d => Tables.info? Tryz.prog.toTables 40 = some d) inf40, ⟨tab_some (Q := fun d => Tables.info? Tryz.prog.toTables 41 = some d) inf41, ⟨tab_some (Q := fun d => Tables.info? Tryz.prog.toTables 42 = some d) inf42, ⟨tab_some (Q := fun d => Tables.info? Tryz.prog.toTables 43 = some d) inf43, ⟨tab_some (Q := fun d => Tables.info? Tryz.prog.toTables 44 = some d) inf44, ⟨tab_some (Q := fun d => Tables.info? Tryz.prog.toTables 45 = some d) inf45, ⟨tab_some (Q := fun d => Tables.info? Tryz.prog.toTables 46 = some d) inf46, ⟨tab_some (Q := fun d => Tables.info? Tryz.prog.toTables 47 = some d) inf47, True.intro⟩⟩⟩⟩⟩⟩⟩⟩⟩⟩⟩⟩⟩⟩⟩⟩,
    ⟨⟨tab_some (Q := fun d => Tables.info? Tryz.prog.toTables 48 = some d) inf48, ⟨tab_some (Q := fun d => Tables.info? Tryz.prog.toTables 49 = some d) inf49, ⟨tab_some (Q := fun d => Tables.info? Tryz.prog.toTables 50 = some d) inf50, ⟨tab_some (Q := fun d => Tables.info? Tryz.prog.toTables 51 = some d) inf51, ⟨tab_some (Q := fun d => Tables.info? Tryz.prog.toTables 52 = some d) inf52, ⟨tab_some (Q := fun d => Tables.info? Tryz.prog.toTables 53 = some d) inf53, ⟨tab_some (Q := fun d => Tables.info? Tryz.prog.toTables 54 = some d) inf54, ⟨tab_some (Q := fun d => Tables.info? Tryz.prog.toTables 55 = some d) inf55, ⟨tab_some (Q := fun d => Tables.info? Tryz.prog.toTables 56 = some d) inf56, ⟨tab_some (Q := fun d => Tables.info? Tryz.prog.toTables 57 = some d) inf57, ⟨tab_some (Q := fun d => Tables.info? Tryz.prog.toTables 58 = some d) inf58, ⟨tab_some (Q := fun d => Tables.info? Tryz.prog.toTables 59 = some d) inf59, ⟨tab_some (Q := fun d => Tables.info? Tryz.prog.toTables 60 = some d) inf60, ⟨tab_some (Q := fun d => Tables.info? Tryz.prog.toTables 61 = some d) inf61, ⟨tab_some (Q := fun d => Tables.info? Tryz.prog.toTables 62 = some d) inf62, ⟨tab_some (Q := fun d => Tables.info? Tryz.prog.toTables 63 = some d) inf63, True.intro⟩⟩⟩⟩⟩⟩⟩⟩⟩⟩⟩⟩⟩⟩⟩⟩,
    ⟨⟨tab_some (Q := fun d => Tables.info? Tryz.prog.toTables 64 = some d) inf64, ⟨tab_some (Q := fun d => Tables.info? Tryz.prog.toTables 65 = some d) inf65, ⟨tab_some (Q := fun d => Tables.info? Tryz.prog.toTables 66 = some d) inf66, ⟨tab_some (Q := fun d => Tables.info? Tryz.prog.toTables 67 = some d) inf67, ⟨tab_some (Q := fun d => Tables.info? Tryz.prog.toTables 68 = some d) inf68, ⟨tab_some (Q := fun d => Tables.info? Tryz.prog.toTables 69 = some d) inf69, ⟨tab_some (Q := fun d => Tables.info? Tryz.prog.toTables 70 = some d) inf70, ⟨tab_some (Q := fun d => Tables.info? Tryz.prog.toTables 71 = some d) inf71, ⟨tab_some (Q := fun d => Tables.info? Tryz.prog.toTables 72 = some d) inf72, ⟨tab_some (Q := fun d => Tables.info? Tryz.prog.toTables 73 = some d) inf73, ⟨tab_some (Q := fun d => Tables.info? Tryz.prog.toTables 74 = some d) inf74, ⟨tab_some (Q := fun d => Tables.info? Tryz.prog.toTables 75 = some d) inf75, ⟨tab_some (Q := fun d => Tables.info? Tryz.prog.toTables 76 = some d) inf76, ⟨tab_some (Q := fun d => Tables.info? Tryz.prog.toTables 77 = some d) inf77, ⟨tab_some (Q := fun d => Tables.info? Tryz.prog.toTables 78 = some d) inf78, ⟨tab_some (Q := fun d => Tables.info? Tryz.prog.toTables 79 = some d) inf79, True.intro⟩⟩⟩⟩⟩⟩⟩⟩⟩⟩⟩⟩⟩⟩⟩⟩,
    ⟨⟨tab_some (Q := fun d => Tables.info? Tryz.prog.toTables 80 = some d) inf80, ⟨tab_some (Q := fun d => Tables.info? Tryz.prog.toTables 81 = some d) inf81, ⟨tab_some (Q := fun d => Tables.info? Tryz.prog.toTables 82 = some d) inf82, ⟨tab_some (Q := fun d => Tables.info? Tryz.prog.toTables 83 = some d) inf83, ⟨tab_some (Q := fun d => Tables.info? Tryz.prog.toTables 84 = some d) inf84, ⟨tab_some (Q := fun d => Tables.info? Tryz.prog.toTables 85 = some d) inf85, ⟨tab_some (Q := fun d => Tables.info? Tryz.prog.toTables 86 = some d) inf86, ⟨tab_some (Q := fun d => Tables.info? Tryz.prog.toTables 87 = some d) inf87, ⟨tab_some (Q := fun d => Tables.info? Tryz.prog.toTables 88 = some d) inf88, ⟨tab_some (Q := fun d => Tables.info? Tryz.prog.toTables 89 = some d) inf89, ⟨tab_some (Q := fun d => Tables.info? Tryz.prog.toTables 90 = some d) inf90, ⟨tab_some (Q := fun d => Tables.info? Tryz.prog.toTables 91 = some d) inf91, ⟨tab_some (Q := fun d => Tables.info? Tryz.prog.toTables 92 = some d) inf92, ⟨tab_some (Q := fun d => Tables.info? Tryz.prog.toTables 93 = some d) inf93, ⟨tab_some (Q := fun d => Tables.info? Tryz.prog.toTables 94 = some d) inf94, ⟨tab_some (Q := fun d => Tables.info? Tryz.prog.toTables 95 = some d) inf95, True.intro⟩⟩⟩⟩⟩⟩⟩⟩⟩⟩⟩⟩⟩⟩⟩⟩,
    ⟨⟨tab_some (Q := fun d => Tables.info? Tryz.prog.toTables 96 = some d) inf96, ⟨tab_some (Q := fun d => Tables.info? Tryz.prog.toTables 97 = some d) inf97, ⟨tab_some (Q := fun d => Tables.info? Tryz.prog.toTables 98 = some d) inf98, ⟨tab_some (Q := fun d => Tables.info? Tryz.prog.toTables 99 = some d) inf99, ⟨tab_some (Q := fun d => Tables.info? Tryz.prog.toTables 100 = some d) inf100, ⟨tab_some (Q := fun d => Tables.info? Tryz.prog.toTables 101 = some d) inf101, ⟨tab_some (Q := fun d => Tables.info? Tryz.prog.toTables 102 = some d) inf102, ⟨tab_some (Q := fun d => Tables.info? Tryz.prog.toTables 103 = some d) inf103, ⟨tab_some (Q := fun d => Tables.info? Tryz.prog.toTables 104 = some d) inf104, ⟨tab_some (Q := fun d => Tables.info? Tryz.prog.toTables 105 = some d) inf105, ⟨tab_some (Q := fun d => Tables.info? Tryz.prog.toTables 106 = some d) inf106, ⟨tab_some (Q := fun d => Tables.info? Tryz.prog.toTables 107 = some d) inf107, ⟨tab_some (Q := fun d => Tables.info? Tryz.prog.toTables 108 = some d) inf108, ⟨tab_some (Q := fun d => Tables.info? Tryz.prog.toTables 109 = some d) inf109, ⟨tab_some (Q := fun d => Tables.info? Tryz.prog.toTables 110 = some d) inf110, ⟨tab_some (Q := fun d => Tables.info? Tryz.prog.toTables 111 = some d) inf111, True.intro⟩⟩⟩⟩⟩⟩⟩⟩⟩⟩⟩⟩⟩⟩⟩⟩,
    ⟨⟨tab_some (Q := fun d => Tables.info? Tryz.prog.toTables 112 = some d) inf112, ⟨tab_some (Q := fun d => Tables.info? Tryz.prog.toTables 113 = some d) inf113, ⟨tab_some (Q := fun d => Tables.info? Tryz.prog.toTables 114 = some d) inf114, ⟨tab_some (Q := fun d => Tables.info? Tryz.prog.toTables 115 = some d) inf115, ⟨tab_some (Q := fun d => Tables.info? Tryz.prog.toTables 116 = some d) inf116, ⟨tab_some (Q := fun d => Tables.info? Tryz.prog.toTables 117 = some d) inf117, ⟨tab_some (Q := fun d => Tables.info? Tryz.prog.toTables 118 = some d) inf118, ⟨tab_some (Q := fun d => Tables.info? Tryz.prog.toTables 119 = some d) inf119, ⟨tab_some (Q := fun d => Tables.info? Tryz.prog.toTables 120 = some d) inf120, ⟨tab_some (Q := fun d => Tables.info? Tryz.prog.toTables 121 = some d) inf121, ⟨tab_some (Q := fun d => Tables.info? Tryz.prog.toTables 122 = some d) inf122, ⟨tab_some (Q := fun d => Tables.info? Tryz.prog.toTables 123 = some d) inf123, ⟨tab_some (Q := fun d => Tables.info? Tryz.prog.toTables 124 = some d) inf124, ⟨tab_some (Q := fun d => Tables.info? Tryz.prog.toTables 125 = some d) inf125, ⟨tab_some (Q := fun d => Tables.info? Tryz.prog.toTables 126 = some d) inf126, ⟨tab_some (Q := fun d => Tables.info? Tryz.prog.toTables 127 = some d) inf127, True.intro⟩⟩⟩⟩⟩⟩⟩⟩⟩⟩⟩⟩⟩⟩⟩⟩,
    ⟨⟨tab_some (Q := fun d => Tables.info? Tryz.prog.toTables 128 = some d) inf128, ⟨tab_some (Q := fun d => Tables.info? Tryz.prog.toTables 129 = some d) inf129, ⟨tab_some (Q := fun d => Tables.info? Tryz.prog.toTables 130 = some d) inf130, ⟨tab_some (Q := fun d => Tables.info? Tryz.prog.toTables 131 = some d) inf131, ⟨tab_some (Q := fun d => Tables.info? Tryz.prog.toTables 132 = some d) inf132, ⟨tab_some (Q := fun d => Tables.info? Tryz.prog.toTables 133 = some d) inf133, ⟨tab_some (Q := fun d => Tables.info? Tryz.prog.toTables 134 = some d) inf134, ⟨tab_some (Q := fun d => Tables.info? Tryz.prog.toTables 135 = some d) inf135, True.intro⟩⟩⟩⟩⟩⟩⟩⟩,
    True.intro⟩⟩⟩⟩⟩⟩⟩⟩⟩
theorem tabFunc_ok : TabAll (fun t f => Tryz.prog.funcs[t]? = some f) tabFunc :=
   ⟨⟨tab_none, ⟨tab_none, ⟨tab_some (Q := fun d => Tryz.prog.funcs[2]? = some d) Tryz.func2, ⟨tab_some (Q := fun d => Tryz.prog.funcs[3]? = some d) Tryz.func3, ⟨tab_some (Q := fun d => Tryz.prog.funcs[4]? = some d) Tryz.func4, ⟨tab_some (Q := fun d => Tryz.prog.funcs[5]? = some d) Tryz.func5, ⟨tab_some (Q := fun d => Tryz.prog.funcs[6]? = some d) Tryz.func6, ⟨tab_some (Q := fun d => Tryz.prog.funcs[7]? = some d) Tryz.func7, ⟨tab_some (Q := fun d => Tryz.prog.funcs[8]? = some d) Tryz.func8, ⟨tab_some (Q := fun d => Tryz.prog.funcs[9]? = some d) Tryz.func9, ⟨tab_some (Q := fun d => Tryz.prog.funcs[10]? = some d) Tryz.func10, ⟨tab_some (Q := fun d => Tryz.prog.funcs[11]? = some d) Tryz.func11, ⟨tab_some (Q := fun d => Tryz.prog.funcs[12]? = some d) Tryz.func12, ⟨tab_some (Q := fun d => Tryz.prog.funcs[13]? = some d) Tryz.func13, ⟨tab_some (Q := fun d => Tryz.prog.funcs[14]? = some d) Tryz.func14, ⟨tab_some (Q := fun d => Tryz.prog.funcs[15]? = some d) Tryz.func15, True.intro⟩⟩⟩⟩⟩⟩⟩⟩⟩⟩⟩⟩⟩⟩⟩⟩,
    ⟨⟨tab_some (Q := fun d => Tryz.prog.funcs[16]? = some d) Tryz.func16, ⟨tab_some (Q := fun d => Tryz.prog.funcs[17]? = some d) Tryz.func17, ⟨tab_some (Q := fun d => Tryz.prog.funcs[18]? = some d) Tryz.func18, ⟨tab_some (Q := fun d => Tryz.prog.funcs[19]? = some d) Tryz.func19, ⟨tab_some (Q := fun d => Tryz.prog.funcs[20]? = some d) Tryz.func20, ⟨tab_some (Q := fun d => Tryz.prog.funcs[21]? = some d) Tryz.func21, ⟨tab_some (Q := fun d => Tryz.prog.funcs[22]? = some d) Tryz.func22, ⟨tab_some (Q := fun d => Tryz.prog.funcs[23]? = some d) Tryz.func23, ⟨tab_some (Q := fun d => Tryz.prog.funcs[24]? = some d) Tryz.func24, ⟨tab_some (Q := fun d => Tryz.prog.funcs[25]? = some d) Tryz.func25, ⟨tab_some (Q := fun d => Tryz.prog.funcs[26]? = some d) Tryz.func26, ⟨tab_some (Q := fun d => Tryz.prog.funcs[27]? = some d) Tryz.func27, ⟨tab_some (Q := fun d => Tryz.prog.funcs[28]? = some d) Tryz.func28, ⟨tab_some (Q := fun d => Tryz.prog.funcs[29]? = some d) Tryz.func29, ⟨tab_some (Q := fun d => Tryz.prog.funcs[30]? = some d) Tryz.func30, ⟨tab_some (Q := fun d => Tryz.prog.funcs[31]? = some d) Tryz.func31, True.intro⟩⟩⟩⟩⟩⟩⟩⟩⟩⟩⟩⟩⟩⟩⟩⟩,
    ⟨⟨tab_some (Q := fun d => Tryz.prog.funcs[32]? = some d) Tryz.func32, ⟨tab_some (Q := fun d => Tryz.prog.funcs[33]? = some d) Tryz.func33, ⟨tab_some (Q := fun d => Tryz.prog.funcs[34]? = some d) Tryz.func34, ⟨tab_some (Q := fun d => Tryz.prog.funcs[35]? = some d) Tryz.func35, ⟨tab_some (Q := fun d => Tryz.prog.funcs[36]? = some d) Tryz.func36, ⟨tab_some (Q := fun d => Tryz.prog.funcs[37]? = some d) Tryz.func37, ⟨tab_some (Q := fun d => Tryz.prog.funcs[38]? = some d) Tryz.func38, ⟨tab_some (Q := fun d => Tryz.prog.funcs[39]? = some d) Tryz.func39, ⟨tab_some (Q := fun d => Tryz.prog.funcs[40]? = some d) Tryz.func40, ⟨tab_some (Q := fun d => Tryz.prog.funcs[41]? = some d) Tryz.func41, ⟨tab_some (Q := fun d => Tryz.prog.funcs[42]? = some d) Tryz.func42, ⟨tab_some (Q := fun d => Tryz.prog.funcs[43]? = some d) Tryz.func43, ⟨tab_some (Q := fun d => Tryz.prog.funcs[44]? = some d) Tryz.func44, ⟨tab_some (Q := fun d => Tryz.prog.funcs[45]? = some d) Tryz.func45, ⟨tab_some (Q := fun d => Tryz.prog.funcs[46]? = some d) Tryz.func46, ⟨tab_some (Q := fun d => Tryz.prog.funcs[47]? = some d) Tryz.func47, True.intro⟩⟩⟩⟩⟩⟩⟩⟩⟩⟩⟩⟩⟩⟩⟩⟩,
    ⟨⟨tab_some (Q := fun d => Tryz.prog.funcs[48]? = some d) Tryz.func48, ⟨tab_some (Q := fun d => Tryz.prog.funcs[49]? = some d) Tryz.func49, ⟨tab_some (Q := fun d => Tryz.prog.funcs[50]? = some d) Tryz.func50, ⟨tab_some (Q := fun d => Tryz.prog.funcs[51]? = some d) Tryz.func51, ⟨tab_some (Q := fun d => Tryz.prog.funcs[52]? = some d) Tryz.func52, ⟨tab_some (Q := fun d => Tryz.prog.funcs[53]? = some d) Tryz.func53, ⟨tab_some (Q := fun d => Tryz.prog.funcs[54]? = some d) Tryz.func54, ⟨tab_some (Q := fun d => Tryz.prog.funcs[55]? = some d) Tryz.func55, ⟨tab_some (Q := fun d => Tryz.prog.funcs[56]? = some d) Tryz.func56, ⟨tab_some (Q := fun d => Tryz.prog.funcs[57]? = some d) Tryz.func57, ⟨tab_some (Q := fun d => Tryz.prog.funcs[58]? = some d) Tryz.func58, ⟨tab_some (Q := fun d => Tryz.prog.funcs[59]? = some d) Tryz.func59, ⟨tab_some (Q := fun d => Tryz.prog.funcs[60]? = some d) Tryz.func60, ⟨tab_some (Q := fun d => Tryz.prog.funcs[61]? = some d) Tryz.func61, ⟨tab_some (Q := fun d => Tryz.prog.funcs[62]? = some d) Tryz.func62, ⟨tab_some (Q := fun d => Tryz.prog.funcs[63]? = some d) Tryz.func63, True.intro⟩⟩⟩⟩⟩⟩⟩⟩⟩⟩⟩⟩⟩⟩⟩⟩,
    ⟨⟨tab_some (Q := fun d => Tryz.prog.funcs[64]? = some d) Tryz.func64, ⟨tab_some (Q := fun d => Tryz.prog.funcs[65]? = some d) Tryz.func65, ⟨tab_some (Q := fun d => Tryz.prog.funcs[66]? = some d) Tryz.func66, ⟨tab_some (Q := fun d => Tryz.prog.funcs[67]? = some d) Tryz.func67, ⟨tab_some (Q := fun d => Tryz.prog.funcs[68]? = some d) Tryz.func68, ⟨tab_some (Q := fun d => Tryz.prog.funcs[69]? = some d) Tryz.func69, ⟨tab_some (Q := fun d => Tryz.prog.funcs[70]? = some d) Tryz.func70, ⟨tab_some (Q := fun d => Tryz.prog.funcs[71]? = some d) Tryz.func71, ⟨tab_some (Q := fun d => Tryz.prog.funcs[72]? = some d) Tryz.func72, ⟨tab_some (Q := fun d => Tryz.prog.funcs[73]? = some d) Tryz.func73, ⟨tab_some (Q := fun d => Tryz.prog.funcs[74]? = some d) Tryz.func74, ⟨tab_some (Q := fun d => Tryz.prog.funcs[75]? = some d) Tryz.func75, ⟨tab_some (Q := fun d => Tryz.prog.funcs[76]? = some d) Tryz.func76, ⟨tab_some (Q := fun d => Tryz.prog.funcs[77]? = some d) Tryz.func77, ⟨tab_some (Q := fun d => Tryz.prog.funcs[78]? = some d) Tryz.func78, ⟨tab_some (Q := fun d => Tryz.prog.funcs[79]? = some d) Tryz.func79, True.intro⟩⟩⟩⟩⟩⟩⟩⟩⟩⟩⟩⟩⟩⟩⟩⟩,
    ⟨⟨tab_some (Q := fun d => Tryz.prog.funcs[80]? = some d) Tryz.func80, ⟨tab_some (Q := fun d => Tryz.prog.funcs[81]? = some d) Tryz.func81, ⟨tab_some (Q := fun d => Tryz.prog.funcs[82]? = some d) Tryz.func82, ⟨tab_some (Q := fun d => Tryz.prog.funcs[83]? = some d) Tryz.func83, ⟨tab_some (Q := fun d => Tryz.prog.funcs[84]? = some d) Tryz.func84, ⟨tab_some (Q := fun d => Tryz.prog.funcs[85]? = some d) Tryz.func85, ⟨tab_some (Q := fun d => Tryz.prog.funcs[86]? = some d) Tryz.func86, ⟨tab_some (Q := fun d => Tryz.prog.funcs[87]? = some d) Tryz.func87, ⟨tab_some (Q := fun d => Tryz.prog.funcs[88]? = some d) Tryz.func88, ⟨tab_some (Q := fun d => Tryz.prog.funcs[89]? = some d) Tryz.func89, ⟨tab_some (Q := fun d => Tryz.prog.funcs[90]? = some d) Tryz.func90, ⟨tab_some (Q := fun d => Tryz.prog.funcs[91]? = some d) Tryz.func91, ⟨tab_some (Q := fun d => Tryz.prog.funcs[92]? = some d) Tryz.func92, ⟨tab_some (Q := fun d => Tryz.prog.funcs[93]? = some d) Tryz.func93, ⟨tab_some (Q := fun d => Tryz.prog.funcs[94]? = some d) Tryz.func94, ⟨tab_some (Q := fun d => Tryz.prog.funcs[95]? = some d) Tryz.func95, True.intro⟩⟩⟩⟩⟩⟩⟩⟩⟩⟩⟩⟩⟩⟩⟩⟩,
    ⟨⟨tab_some (Q := fun d => Tryz.prog.funcs[96]? = some d) Tryz.func96, ⟨tab_some (Q := fun d => Tryz.prog.funcs[97]? = some d) Tryz.func97, ⟨tab_some (Q := fun d => Tryz.prog.funcs[98]? = some d) Tryz.func98, ⟨tab_some (Q := fun d => Tryz.prog.funcs[99]? = some d) Tryz.func99, ⟨tab_some (Q := fun d => Tryz.prog.funcs[100]? = some d) Tryz.func100, ⟨tab_some (Q := fun d => Tryz.prog.funcs[101]? = some d) Tryz.func101, ⟨tab_some (Q := fun d => Tryz.prog.funcs[102]? = some d) Tryz.func102, ⟨tab_some (Q := fun d => Tryz.prog.funcs[103]? = some d) Tryz.func103, ⟨tab_some (Q := fun d => Tryz.prog.funcs[104]? = some d) Tryz.func104, ⟨tab_some (Q := fun d => Tryz.prog.funcs[105]? = some d) Tryz.func105, ⟨tab_some (Q := fun d => Tryz.prog.funcs[106]? = some d) Tryz.func106, ⟨tab_some (Q := fun d => Tryz.prog.funcs[107]? = some d) Tryz.func107, ⟨tab_some (Q := fun d => Tryz.prog.funcs[108]? = some d) Tryz.func108, ⟨tab_some (Q := fun d => Tryz.prog.funcs[109]? = some d) Tryz.func109, ⟨tab_some (Q := fun d => Tryz.prog.funcs[110]? = some d) Tryz.func110, ⟨tab_some (Q := fun d => Tryz.prog.funcs[111]? = some d) Tryz.func111, True.intro⟩⟩⟩⟩⟩⟩⟩⟩⟩⟩⟩⟩⟩⟩⟩⟩,
    ⟨⟨tab_some (Q := fun d => Tryz.prog.funcs[112]? = some d) Tryz.func112, ⟨tab_some (Q := fun d => Tryz.prog.funcs[113]? = some d) Tryz.func113, ⟨tab_some (Q := fun d => Tryz.prog.funcs[114]? = some d) Tryz.func114, ⟨tab_some (Q := fun d => Tryz.prog.funcs[115]? = some d) Tryz.func115, ⟨tab_some (Q := fun d => Tryz.prog.funcs[116]? = some d) Tryz.func116, ⟨tab_some (Q := fun d => Tryz.prog.funcs[117]? = some d) Tryz.func117, ⟨tab_some (Q := fun d => Tryz.prog.funcs[118]? = some d) Tryz.func118, ⟨tab_some (Q := fun d => Tryz.prog.funcs[119]? = some d) Tryz.func119, ⟨tab_some (Q := fun d => Tryz.prog.funcs[120]? = some d) Tryz.func120, ⟨tab_some (Q := fun d => Tryz.prog.funcs[121]? = some d) Tryz.func121, ⟨tab_some (Q := fun d => Tryz.prog.funcs[122]? = some d) Tryz.func122, ⟨tab_some (Q := fun d => Tryz.prog.funcs[123]? = some d) Tryz.func123, ⟨tab_some (Q := fun d => Tryz.prog.funcs[124]? = some d) Tryz.func124, ⟨tab_some (Q := fun d => Tryz.prog.funcs[125]? = some d) Tryz.func125, ⟨tab_some (Q := fun d => Tryz.prog.funcs[126]? = some d) Tryz.func126, ⟨tab_some (Q := fun d => Tryz.prog.funcs[127]? = some d) Tryz.func127, True.intro⟩⟩⟩⟩⟩⟩⟩⟩⟩⟩⟩⟩⟩⟩⟩⟩,
    ⟨⟨tab_some (Q := fun d => Tryz.prog.funcs[128]? = some d) Tryz.func128, ⟨tab_some (Q := fun d => Tryz.prog.funcs[129]? = some d) Tryz.func129, ⟨tab_some (Q := fun d => Tryz.prog.funcs[130]? = some d) Tryz.func130, ⟨tab_some (Q := fun d => Tryz.prog.funcs[131]? = some d) Tryz.func131, ⟨tab_some (Q := fun d => Tryz.prog.funcs[132]? = some d) Tryz.func132, ⟨tab_some (Q := fun d => Tryz.prog.funcs[133]? = some d) Tryz.func133, ⟨tab_some (Q := fun d => Tryz.prog.funcs[134]? = some d) Tryz.func134, ⟨tab_some (Q := fun d => Tryz.prog.funcs[135]? = some d) Tryz.func135, ⟨tab_none, ⟨tab_some (Q := fun d => Tryz.prog.funcs[137]? = some d) Tryz.func137, ⟨tab_some (Q := fun d => Tryz.prog.funcs[138]? = some d) Tryz.func138, ⟨tab_some (Q := fun d => Tryz.prog.funcs[139]? = some d) Tryz.func139, ⟨tab_some (Q := fun d => Tryz.prog.funcs[140]? = some d) Tryz.func140, ⟨tab_some (Q := fun d => Tryz.prog.funcs[141]? = some d) Tryz.func141, ⟨tab_some (Q := fun d => Tryz.prog.funcs[142]? = some d) Tryz.func142, ⟨tab_some (Q := fun d => Tryz.prog.funcs[143]? = some d) Tryz.func143, True.intro⟩⟩⟩⟩⟩⟩⟩⟩⟩⟩⟩⟩⟩⟩⟩⟩,
    ⟨⟨tab_some (Q := fun d => Tryz.prog.funcs[144]? = some d) Tryz.func144, ⟨tab_some (Q := fun d => Tryz.prog.funcs[145]? = some d) Tryz.func145, ⟨tab_some (Q := fun d => Tryz.prog.funcs[146]? = some d) Tryz.func146, ⟨tab_none, ⟨tab_some (Q := fun d => Tryz.prog.funcs[148]? = some d) Tryz.func148, ⟨tab_some (Q := fun d => Tryz.prog.funcs[149]? = some d) Tryz.func149, ⟨tab_some (Q := fun d => Tryz.prog.funcs[150]? = some d) Tryz.func150, ⟨tab_some (Q := fun d => Tryz.prog.funcs[151]? = some d) Tryz.func151, ⟨tab_some (Q := fun d => Tryz.prog.funcs[152]? = some d) Tryz.func152, ⟨tab_some (Q := fun d => Tryz.prog.funcs[153]? = some d) Tryz.func153, ⟨tab_none, ⟨tab_none, ⟨tab_none, ⟨tab_none, ⟨tab_none, ⟨tab_none, True.intro⟩⟩⟩⟩⟩⟩⟩⟩⟩⟩⟩⟩⟩⟩⟩⟩,
    ⟨⟨tab_none, ⟨tab_none, ⟨tab_none, ⟨tab_none, ⟨tab_none, ⟨tab_none, ⟨tab_none, ⟨tab_none, ⟨tab_none, ⟨tab_none, ⟨tab_none, ⟨tab_none, True.intro⟩⟩⟩⟩⟩⟩⟩⟩⟩⟩⟩⟩,
    True.intro⟩⟩⟩⟩⟩⟩⟩⟩⟩⟩⟩
theorem tabEnter_ok : TabAll (fun t _ => enterB Tryz.prog t = true) tabFunc :=
   ⟨⟨tab_none, ⟨tab_none, ⟨(fun _ _ => en2), ⟨(fun _ _ => en3), ⟨(fun _ _ => en4), ⟨(fun _ _ => en5), ⟨(fun _ _ => en6), ⟨(fun _ _ => en7), ⟨(fun _ _ => en8), ⟨(fun _ _ => en9), ⟨(fun _ _ => en10), ⟨(fun _ _ => en11), ⟨(fun _ _ => en12), ⟨(fun _ _ => en13), ⟨(fun _ _ => en14), ⟨(fun _ _ => en15), True.intro⟩⟩⟩⟩⟩⟩⟩⟩⟩⟩⟩⟩⟩⟩⟩⟩,
    ⟨⟨(fun _ _ => en16), ⟨(fun _ _ => en17), ⟨(fun _ _ => en18), ⟨(fun _ _ => en19), ⟨(fun _ _ => en20), ⟨(fun _ _ => en21), ⟨(fun _ _ => en22), ⟨(fun _ _ => en23), ⟨(fun _ _ => en24), ⟨(fun _ _ => en25), ⟨(fun _ _ => en26), ⟨(fun _ _ => en27), ⟨(fun _ _ => en28), ⟨(fun _ _ => en29), ⟨(fun _ _ => en30), ⟨(fun _ _ => en31), True.intro⟩⟩⟩⟩⟩⟩⟩⟩⟩⟩⟩⟩⟩⟩⟩⟩,
    ⟨⟨(fun _ _ => en32), ⟨(fun _ _ => en33), ⟨(fun _ _ => en34), ⟨(fun _ _ => en35), ⟨(fun _ _ => en36), ⟨(fun _ _ => en37), ⟨(fun _ _ => en38), ⟨(fun _ _ => en39), ⟨(fun _ _ => en40), ⟨(fun _ _ => en41), ⟨(fun _ _ => en42), ⟨(fun _ _ => en43), ⟨(fun _ _ => en44), ⟨(fun _ _ => en45), ⟨(fun _ _ => en46), ⟨(fun _ _ => en47), True.intro⟩⟩⟩⟩⟩⟩⟩⟩⟩⟩⟩⟩⟩⟩⟩⟩,
    ⟨⟨(fun _ _ => en48), ⟨(fun _ _ => en49), ⟨(fun _ _ => en50), ⟨(fun _ _ => en51), ⟨(fun _ _ => en52), ⟨(fun _ _ => en53), ⟨(fun _ _ => en54), ⟨(fun _ _ => en55), ⟨(fun _ _ => en56), ⟨(fun _ _ => en57), ⟨(fun _ _ => en58), ⟨(fun _ _ => en59), ⟨(fun _ _ => en60), ⟨(fun _ _ => en61), ⟨(fun _ _ => en62), ⟨(fun _ _ => en63), True.intro⟩⟩⟩⟩⟩⟩⟩⟩⟩⟩⟩⟩⟩⟩⟩⟩,
    ⟨⟨(fun _ _ => en64), ⟨(fun _ _ => en65), ⟨(fun _ _ => en66), ⟨(fun _ _ => en67), ⟨(fun _ _ => en68), ⟨(fun _ _ => en69), ⟨(fun _ _ => en70), ⟨(fun _ _ => en71), ⟨(fun _ _ => en72), ⟨(fun _ _ => en73), ⟨(fun _ _ => en74), ⟨(fun _ _ => en75), ⟨(fun _ _ => en76), ⟨(fun _ _ => en77), ⟨(fun _ _ => en78), ⟨(fun _ _ => en79), True.intro⟩⟩⟩⟩⟩⟩⟩⟩⟩⟩⟩⟩⟩⟩⟩⟩,
    ⟨⟨(fun _ _ => en80), ⟨(fun _ _ => en81), ⟨(fun _ _ => en82), ⟨(fun _ _ => en83), ⟨(fun _ _ => en84), ⟨(fun _ _ => en85), ⟨(fun _ _ => en86), ⟨(fun _ _ => en87), ⟨(fun _ _ => en88), ⟨(fun _ _ => en89), ⟨(fun _ _ => en90), ⟨(fun _ _ => en91), ⟨(fun _ _ => en92), ⟨(fun _ _ => en93), ⟨(fun _ _ => en94), ⟨(fun _ _ => en95), True.intro⟩⟩⟩⟩⟩⟩⟩⟩⟩⟩⟩⟩⟩⟩⟩⟩,
    ⟨⟨(fun _ _ => en96), ⟨(fun _ _ => en97), ⟨(fun _ _ => en98), ⟨(fun _ _ => en99), ⟨(fun _ _ => en100), ⟨(fun _ _ => en101), ⟨(fun _ _ => en102), ⟨(fun _ _ => en103), ⟨(fun _ _ => en104), ⟨(fun _ _ => en105), ⟨(fun _ _ => en106), ⟨(fun _ _ => en107), ⟨(fun _ _ => en108), ⟨(fun _ _ => en109), ⟨(fun _ _ => en110), ⟨(fun _ _ => en111), True.intro⟩⟩⟩⟩⟩⟩⟩⟩⟩⟩⟩⟩⟩⟩⟩⟩,
    ⟨⟨(fun _ _ => en112), ⟨(fun _ _ => en113), ⟨(fun _ _ => en114), ⟨(fun _ _ => en115), ⟨(fun _ _ => en116), ⟨(fun _ _ => en117), ⟨(fun _ _ => en118), ⟨(fun _ _ => en119), ⟨(fun _ _ => en120), ⟨(fun _ _ => en121), ⟨(fun _ _ => en122), ⟨(fun _ _ => en123), ⟨(fun _ _ => en124), ⟨(fun _ _ => en125), ⟨(fun _ _ => en126), ⟨(fun _ _ => en127), True.intro⟩⟩⟩⟩⟩⟩⟩⟩⟩⟩⟩⟩⟩⟩⟩⟩,
    ⟨⟨(fun _ _ => en128), ⟨(fun _ _ => en129), ⟨(fun _ _ => en130), ⟨(fun _ _ => en131), ⟨(fun _ _ => en132), ⟨(fun _ _ => en133), ⟨(fun _ _ => en134), ⟨(fun _ _ => en135), ⟨tab_none, ⟨(fun _ _ => en137), ⟨(fun _ _ => en138), ⟨(fun _ _ => en139), ⟨(fun _ _ => en140), ⟨(fun _ _ => en141), ⟨(fun _ _ => en142), ⟨(fun _ _ => en143), True.intro⟩⟩⟩⟩⟩⟩⟩⟩⟩⟩⟩⟩⟩⟩⟩⟩,
    ⟨⟨(fun _ _ => en144), ⟨(fun _ _ => en145), ⟨(fun _ _ => en146), ⟨tab_none, ⟨(fun _ _ => en148), ⟨(fun _ _ => en149), ⟨(fun _ _ => en150), ⟨(fun _ _ => en151), ⟨(fun _ _ => en152), ⟨(fun _ _ => en153), ⟨tab_none, ⟨tab_none, ⟨tab_none, ⟨tab_none, ⟨tab_none, ⟨tab_none, True.intro⟩⟩⟩⟩⟩⟩⟩⟩⟩⟩⟩⟩⟩⟩⟩⟩,
    ⟨⟨tab_none, ⟨tab_none, ⟨tab_none, ⟨tab_none, ⟨tab_none, ⟨tab_none, ⟨tab_none, ⟨tab_none, ⟨tab_none, ⟨tab_none, ⟨tab_none, ⟨tab_none, True.intro⟩⟩⟩⟩⟩⟩⟩⟩⟩⟩⟩⟩,
    True.intro⟩⟩⟩⟩⟩⟩⟩⟩⟩⟩⟩

noncomputable def theTabs : Tabs := ⟨tabGet tabUnd, tabGet tabInfo, tabGet tabFunc⟩
theorem theTabs_ok : TabOK Tryz.prog theTabs := ⟨fun _ _ h => tabUnd_ok.of h, fun _ _ h => tabInfo_ok.of h, fun _ _ h => tabFunc_ok.of h⟩
theorem theTabs_en : ∀ f fn, theTabs.func f = some fn → enterB Tryz.prog f = true := fun _ _ h => tabEnter_ok.of (Q := fun t _ => enterB Tryz.prog t = true) h

end B
end Go.Proofs.YtejmgafhfbkbnaaGreat

namespace Go.Proofs.YtejmgafhfbkbnaaGreat
namespace G
open Go B Go.Proofs

def lookN {α : Type} (k : Nat) : List (Nat × α) → Option α
  | [] => none
  | (i, x) :: l => bif Nat.beq i k then some x else lookN k l
def planTab : List (Nat × List (Nat × PI)) := [
  (3, [(4, .reads [0, 2, 1, 3, 4, 5, 6, 7, 8, 9, 10, 11, 12, 13] [0, 1, 0, 7, 15, 31, 63, 63, 255, 511, 1023, 2047, 4095, 8191])]),
  (4, [(4, .reads [0, 1, 2, 3, 4, 5, 6, 7, 8, 9, 10, 11, 17, 12, 13, 14, 15, 16, 18, 19, 20] [0, 0, 3, 7, 15, 31, 0, 0, 192, 448, 1023, 2047, 4095, 8191, 16383, 16383, 16383, 0, 163839, 458751, 1048575]), (13, .quiet [0, 1, 2, 3, 4, 5, 6, 7, 8]), (14, .quiet [0, 1, 2, 3, 4, 5, 6, 7, 8, 9, 10, 11, 12, 13, 14, 15, 16, 17, 18, 19, 20, 21, 22, 23, 24]), (15, .quiet [0, 1, 2, 3, 4, 5, 6, 7, 8, 9, 10, 11, 12, 13, 14, 15, 16, 17, 18, 19, 20, 21, 22, 23, 24])]),
  (9, [(6, .quiet [0, 1, 2, 3, 4, 5, 6, 7, 8, 9, 10, 11])]),
  (15, [(6, .reads [0, 1, 2, 3, 4, 5, 6, 7, 8, 9, 10, 11, 12, 13, 14, 15, 16] [0, 1, 3, 7, 15, 31, 63, 127, 255, 511, 255, 255, 3327, 7423, 16383, 32767, 65535])]),
  (18, [(11, .reads [0, 1, 2, 3, 4, 6, 8, 5, 7, 9, 10, 11, 12, 13] [0, 1, 3, 7, 7, 23, 7, 119, 7, 503, 1015, 2047, 4095, 8191])]),
  (20, [(6, .reads [0, 1, 2, 3, 4, 5, 6, 7, 8, 9, 10, 11, 12, 13, 14, 15, 16, 17, 18] [0, 1, 3, 7, 15, 31, 63, 127, 255, 511, 255, 2047, 4095, 8191, 16383, 32767, 65535, 131071, 262143]), (36, .reads [0, 1, 2, 3, 4, 5, 6, 7, 8, 9, 10, 11, 12, 13, 14, 15, 16, 17, 18, 19, 20, 21, 22, 23, 24, 25, 26] [0, 1, 3, 7, 15, 31, 63, 127, 255, 511, 1023, 2047, 4095, 8191, 4095, 32767, 65535, 131071, 262143, 524287, 1048575, 524287, 2621439, 6815743, 16777215, 33554431, 67108863])]),
  (22, [(3, .reads [0, 1, 2, 3, 4, 5] [0, 0, 0, 1, 11, 31])]),
  (24, [(6, .quiet [0, 1, 2, 3, 4, 5, 6, 7, 8, 9, 10, 11, 12])]),
  (41, [(1, .reads [0, 1, 2, 3, 4, 5, 6, 7, 8, 9, 10, 11, 12, 13, 14, 15, 16, 17, 18, 19] [0, 1, 3, 7, 15, 31, 63, 127, 255, 255, 1023, 2047, 4095, 4095, 12287, 28671, 65535, 131071, 262143, 524287])]),
  (44, [(7, .reads [0, 1, 2, 3, 4, 5, 6, 7, 8, 9, 10, 11, 12] [0, 1, 3, 7, 15, 15, 15, 111, 239, 495, 1023, 2047, 4095])]),
  (50, [(15, .reads [0, 1, 2, 3, 4, 5, 6, 7, 8, 9, 10, 11, 12, 13, 14, 15, 16, 17, 18] [0, 1, 3, 7, 15, 31, 15, 127, 255, 511, 1023, 2047, 4095, 8191, 16383, 32767, 65535, 131071, 262143])]),
  (58, [(2, .quiet [0, 1, 2, 3, 4, 5, 6, 7, 8, 9, 10, 11]), (4, .reads [0, 1, 2, 3, 4, 5, 6, 7] [0, 1, 0, 4, 12, 31, 63, 127]), (5, .reads [0, 1, 2, 3, 4, 5, 6, 7] [0, 1, 0, 4, 12, 31, 63, 127])]),
  (60, [(5, .reads [0, 1, 2, 3, 4, 5, 6, 7] [0, 0, 2, 0, 8, 1, 39, 127])]),
  (62, [(8, .reads [0, 1, 2, 3, 4, 5, 6, 7] [0, 0, 0, 4, 14, 31, 63, 127])]),
  (71, [(2, .reads [0, 1, 2, 3, 4, 5, 6, 7, 8, 9, 10, 11, 12, 13, 14] [0, 1, 3, 7, 15, 31, 63, 127, 255, 255, 767, 1791, 4095, 8191, 16383])]),
  (77, [(10, .reads [0, 1, 2, 3, 4, 5, 6, 7, 8, 9, 10] [0, 1, 0, 4, 0, 0, 0, 64, 240, 511, 1023])]),
  (78, [(2, .quiet [0, 1, 2, 3, 4, 5, 6, 7, 8, 9])]),
  (79, [(1, .quiet [0, 1, 2, 3, 4, 5, 6, 7, 8, 9]), (2, .quiet [0, 1, 2, 3, 4, 5, 6, 7, 8, 9, 10, 11])]),
  (80, [(2, .reads [0, 1, 2, 3, 4] [0, 0, 2, 7, 15])]),
  (82, [(1, .quiet [0, 1, 2, 3, 4, 5, 6, 7, 8, 9, 10, 11]), (2, .quiet [0, 1, 2, 3, 4, 5, 6, 7, 8, 9, 10, 11, 12])]),
  (94, [(2, .reads [0, 1, 2, 3, 4, 5, 6, 7, 8] [0, 1, 0, 4, 0, 16, 48, 127, 255])]),
  (98, [(7, .reads [0, 1, 2, 3, 4, 5, 6, 7, 8, 9, 10, 11] [0, 0, 0, 4, 12, 28, 60, 124, 254, 510, 1023, 2047])]),
  (100, [(0, .quiet [0, 1, 2, 3, 4, 5, 6, 7, 8, 9]), (6, .quiet [0, 1, 2, 3, 4, 5, 6, 7, 8, 9, 10, 11])]),
  (101, [(1, .quiet [0, 1, 2, 3, 4, 5, 6, 7, 8, 9]), (4, .reads [0, 2, 4, 5, 6, 7, 8, 9, 10, 11, 12, 13, 15, 1, 3, 14, 16, 17] [0, 1, 0, 7, 0, 16, 48, 112, 0, 256, 768, 1792, 0, 7936, 16383, 0, 32767, 131071])]),
  (102, [(5, .reads [0, 1, 2, 4, 5, 7, 3, 6, 8] [0, 1, 3, 7, 0, 16, 63, 0, 255])]),
  (112, [(2, .quiet [0, 1, 2, 3, 4, 5, 6, 7, 8, 9, 10, 11, 12, 13, 14, 15, 16, 17, 18, 19])]),
  (114, [(1, .quiet [0, 1, 2, 3, 4, 5, 6, 7, 8, 9])]),
  (116, [(6, .quiet [0, 1, 2, 3, 4, 5, 6, 7, 8, 9, 10, 11, 12, 13, 14, 15, 16]), (9, .reads [0, 1, 2, 3, 4, 5, 6, 7] [0, 0, 2, 6, 14, 30, 1, 127]), (21, .reads [0, 1, 2, 3, 4, 5, 6, 7] [0, 0, 2, 6, 14, 30, 1, 127])]),
  (117, [(5, .reads [0, 1, 2, 3, 4, 5, 6, 7] [0, 0, 2, 6, 14, 30, 1, 127]), (17, .reads [0, 1, 2, 3, 4, 5, 6, 7, 8] [0, 0, 2, 6, 14, 0, 62, 1, 255])]),
  (118, [(3, .reads [0, 1, 2, 3, 4, 5, 6, 7] [0, 0, 2, 6, 14, 30, 1, 127]), (8, .quiet [0, 1, 2, 3, 4, 5, 6, 7, 8, 9, 10, 11, 12, 13, 14, 15, 16])]),
  (120, [(15, .reads [0, 3, 1, 2, 4, 5, 6, 7] [0, 1, 3, 0, 11, 31, 63, 127])]),
  (121, [(2, .reads [0, 1, 2, 3, 4, 5, 6, 7] [0, 1, 0, 4, 0, 16, 63, 127])]),
  (126, [(1, .reads [0, 1, 2, 3, 5, 6, 7, 8, 9, 4, 10, 11] [0, 1, 3, 7, 15, 0, 32, 96, 224, 480, 1023, 2047])]),
  (134, [(6, .reads [0, 1, 2, 3, 4, 5, 6, 7] [0, 1, 0, 4, 12, 31, 63, 127])]),
  (143, [(3, .reads [0, 1, 2, 3, 4, 5, 6, 7] [0, 1, 0, 4, 12, 31, 63, 127]), (4, .reads [0, 1, 2, 3, 4, 5, 6, 7, 8, 9] [0, 1, 0, 0, 8, 28, 60, 127, 255, 511]), (6, .reads [0, 1, 2, 3, 4, 5, 6, 7, 8, 9] [0, 1, 0, 0, 8, 28, 60, 127, 255, 511]), (8, .reads [0, 1, 2, 3, 4, 5, 6, 7, 8, 9] [0, 1, 0, 0, 8, 28, 60, 127, 255, 511]), (9, .reads [0, 1, 2, 3, 4, 5, 6, 7] [0, 1, 0, 4, 12, 31, 63, 127])]),
  (145, [(8, .reads [0, 1, 2, 3, 4, 5, 6, 7] [0, 1, 0, 4, 12, 31, 63, 127])]),
  (149, [(5, .reads [0, 1, 2, 3, 4, 5, 6, 7] [0, 1, 0, 4, 12, 31, 63, 127]), (6, .reads [0, 1, 2, 3, 4, 5, 6, 7] [0, 1, 0, 4, 12, 31, 63, 127])]),
  (151, [(2, .reads [0, 1, 2, 3, 4, 5] [0, 1, 0, 4, 15, 31])]),
  (153, [(2, .reads [0, 1, 2, 3, 4, 5, 6, 7, 8] [0, 1, 0, 0, 8, 24, 60, 127, 255])])]
def thePlans (f : FuncId) (id : Nat) : Option PI := match lookN f planTab with
  | some l => lookN id l
  | none => none
noncomputable def planChk (f : Nat) : Bool := match theTabs.func f with
  | some fn => (match fn.body with
    | some c => plansOK (thePlans f) c
    | none => true)
  | none => true
theorem planChk_all : (List.range 172).all planChk = true := by kernel_rfl
theorem tab_end : ∀ f, 172 ≤ f → theTabs.func f = none := by
  intro f hf
  have hl : tabFunc.length = 11 := by kernel_rfl
  have key : tabGet tabFunc f = none := by
    unfold tabGet
    by_cases h : f / 16 < 11
    · have hq : ((List.range 4).all fun i => (tabGet tabFunc (172 + i)).isNone) = true := by kernel_rfl
      have := List.all_eq_true.1 hq (f - 172) (by rw [List.mem_range]; omega)
      rw [show 172 + (f - 172) = f by omega] at this
      unfold tabGet at this
      simpa using this
    · rw [List.getElem?_eq_none (by omega)]
  exact key
theorem thePlans_ok : ∀ f fn c, theTabs.func f = some fn → fn.body = some c → plansOK (thePlans f) c = true := by
  intro f fn c hf hc
  rcases Nat.lt_or_ge f 172 with h | h
  · have := List.all_eq_true.1 planChk_all f (by rw [List.mem_range]; exact h)
    unfold planChk at this
    rw [hf] at this
    dsimp only at this
    rw [hc] at this
    exact this
  · rw [tab_end f h] at hf; cases hf

end G
end Go.Proofs.YtejmgafhfbkbnaaGreat

namespace Go.Proofs.YtejmgafhfbkbnaaGreat
namespace G
open Go B Go.Proofs

def nbX : NoBody := nbIbs 136
theorem gokX : GOK Tryz.prog theTabs nbX 172 := ⟨theTabs_ok, theTabs_en, nbIbs_ok Tryz.func136 (by kernel_rfl) (by kernel_rfl) (by kernel_rfl) (by kernel_rfl), by kernel_rfl⟩
noncomputable def runX (f : FuncId) (args : List Value) : Option AEnd := runH Tryz.prog theTabs nbX 172 thePlans 3000 f args
theorem runX_ok {f : FuncId} {args : List Value} {v : Value} (h : isRetV (runX f args) v = true) : ∃ H', theCall Tryz.prog ext0 f args ⟨0, fun _ => none⟩ = some (.ret v, H') := runH_ok gokX thePlans_ok (isRetV_eq h)

theorem works_true : isRetV (runX 10 []) (.bool true) = true := by kernel_rfl

def rngB (lo hi c : Nat) : Bool := Nat.ble lo c && Nat.ble c hi
def letterB (c : Nat) : Bool := rngB 97 122 c || rngB 65 90 c || Nat.beq c 95
def digitB (c : Nat) : Bool := rngB 48 57 c
theorem letters : ((List.range 256).all fun c => isRetV (runX 83 [.int .u8 (Int.ofNat c)]) (.bool (letterB c))) = true := by kernel_rfl
theorem digits : ((List.range 256).all fun c => isRetV (runX 107 [.int .u8 (Int.ofNat c)]) (.bool (digitB c))) = true := by kernel_rfl
theorem kept_a : isRetV (runX 85 [.string ⟨#[97]⟩]) (.bool false) = true := by kernel_rfl
theorem kept_b : isRetV (runX 85 [.string ⟨#[98]⟩]) (.bool false) = true := by kernel_rfl
theorem kept_c : isRetV (runX 85 [.string ⟨#[99]⟩]) (.bool false) = true := by kernel_rfl

def oneB (c : Nat) (l : List UInt8) : Bool := match l with
  | [b] => Nat.beq b.toNat c
  | _ => false
theorem oneB_eq {c : Nat} {s : ByteArray} (hc : c < 256) (h : oneB c s.data.toList = true) : s = ⟨#[UInt8.ofNat c]⟩ := by
  unfold oneB at h
  split at h
  case h_2 => cases h
  rename_i b hb
  have e := Nat.eq_of_beq_eq_true h
  have e2 : b = UInt8.ofNat c := by
    apply UInt8.toNat_inj.1
    rw [e]
    simp [UInt8.toNat_ofNat', Nat.mod_eq_of_lt hc]
  have : s.data = #[b] := by rw [← Array.toArray_toList (xs := s.data), hb]
  cases s
  simp only at this
  rw [this, e2]

def tblX : Tbl := fun f args => bif Nat.beq f 83 then (match args with
    | [.int .u8 (.ofNat c)] => bif Nat.blt c 256 then some (.bool (letterB c)) else none
    | _ => none)
  else bif Nat.beq f 107 then (match args with
    | [.int .u8 (.ofNat c)] => bif Nat.blt c 256 then some (.bool (digitB c)) else none
    | _ => none)
  else bif Nat.beq f 85 then (match args with
    | [.string s] => bif oneB 97 s.data.toList || oneB 98 s.data.toList || oneB 99 s.data.toList then some (.bool false) else none
    | _ => none)
  else bif Nat.beq f 10 then (match args with
    | [] => some (.bool true)
    | _ => none)
  else none

theorem tblX_ok : TblOK Tryz.prog tblX := by
  refine ⟨fun f args v h => ?_⟩
  unfold tblX at h
  cases h1 : Nat.beq f 83 with
  | true =>
    rw [h1, cond_true] at h
    obtain rfl := Nat.eq_of_beq_eq_true h1
    split at h
    case h_2 => cases h
    rename_i c
    cases hc : Nat.blt c 256 with
    | false => rw [hc] at h; cases h
    | true =>
      rw [hc, cond_true] at h
      simp only [Option.some.injEq] at h
      subst h
      exact ⟨⟨_, Tryz.func83⟩, rfl, rfl, runX_ok (List.all_eq_true.1 letters c (by rw [List.mem_range]; rwa [Nat.blt_eq] at hc))⟩
  | false =>
    rw [h1, cond_false] at h
    cases h2 : Nat.beq f 107 with
    | true =>
      rw [h2, cond_true] at h
      obtain rfl := Nat.eq_of_beq_eq_true h2
      split at h
      case h_2 => cases h
      rename_i c
      cases hc : Nat.blt c 256 with
      | false => rw [hc] at h; cases h
      | true =>
        rw [hc, cond_true] at h
        simp only [Option.some.injEq] at h
        subst h
        exact ⟨⟨_, Tryz.func107⟩, rfl, rfl, runX_ok (List.all_eq_true.1 digits c (by rw [List.mem_range]; rwa [Nat.blt_eq] at hc))⟩
    | false =>
      rw [h2, cond_false] at h
      cases h3 : Nat.beq f 85 with
      | true =>
        rw [h3, cond_true] at h
        obtain rfl := Nat.eq_of_beq_eq_true h3
        split at h
        case h_2 => cases h
        rename_i s
        cases hc : oneB 97 s.data.toList || oneB 98 s.data.toList || oneB 99 s.data.toList with
        | false => rw [hc] at h; cases h
        | true =>
          rw [hc, cond_true] at h
          simp only [Option.some.injEq] at h
          subst h
          rw [Bool.or_eq_true, Bool.or_eq_true] at hc
          rcases hc with (hc | hc) | hc
          · rw [oneB_eq (by decide) hc]; exact ⟨⟨_, Tryz.func85⟩, rfl, rfl, runX_ok kept_a⟩
          · rw [oneB_eq (by decide) hc]; exact ⟨⟨_, Tryz.func85⟩, rfl, rfl, runX_ok kept_b⟩
          · rw [oneB_eq (by decide) hc]; exact ⟨⟨_, Tryz.func85⟩, rfl, rfl, runX_ok kept_c⟩
      | false =>
        rw [h3, cond_false] at h
        cases h4 : Nat.beq f 10 with
        | true =>
          rw [h4, cond_true] at h
          obtain rfl := Nat.eq_of_beq_eq_true h4
          split at h
          case h_2 => cases h
          simp only [Option.some.injEq] at h
          subst h
          exact ⟨⟨_, Tryz.func10⟩, rfl, rfl, runX_ok works_true⟩
        | false => rw [h4] at h; cases h

def inlX (f : FuncId) : Bool := not (Nat.beq f 83) && not (Nat.beq f 107) && not (Nat.beq f 85) && not (Nat.beq f 10)
theorem extX_inl {f : FuncId} (h : inlX f = true) (args : List Value) (H : AHeap) : extT tblX f args H = none := by
  unfold inlX at h
  simp only [Bool.and_eq_true, Bool.not_eq_true'] at h
  obtain ⟨⟨⟨h1, h2⟩, h3⟩, h4⟩ := h
  unfold extT tblX
  rw [h1, h2, h3, h4]
  rfl
theorem hokX {orc : CallG} (ho : CallGOK orc (theCall Tryz.prog (extT tblX))) : HOK Tryz.prog theTabs thePlans (extT tblX) inlX orc := by
  refine ⟨thePlans_ok, fun f hf => extX_inl hf, fun K args H => extX_inl ?_ args H, ho⟩
  have hs : Tryz.prog.funcs.size = 172 := gokX.size
  rw [hs]
  unfold inlX
  rw [nbeq_ne (by omega), nbeq_ne (by omega), nbeq_ne (by omega), nbeq_ne (by omega)]
  rfl
end G
end Go.Proofs.YtejmgafhfbkbnaaGreat

namespace Go.Proofs.YtejmgafhfbkbnaaGreat
namespace G
open Go B Go.Proofs


theorem tmod_lt {x : Int} {n : Int} (hn : 0 < n) : -n < x.tmod n ∧ x.tmod n < n := by
  have h1 := Int.tmod_lt_of_pos x hn
  have h2 := Int.lt_tmod_of_pos x hn
  omega
theorem tmod_emod {x : Int} {n : Int} (hn : 0 < n) : (if x.tmod n < 0 then x.tmod n + n else x.tmod n) = x % n := by
  have h1 := Int.tmod_eq_emod (a := x) (b := n)
  have h2 := Int.emod_nonneg x (show n ≠ 0 by omega)
  have h3 := Int.emod_lt_of_pos x hn
  have h4 : (n.natAbs : Int) = n := by omega
  split at h1
  · rw [if_neg (by omega)]; omega
  · rw [if_pos (by omega)]; omega
theorem pick11 {ext : CallT} (hx : ∀ args H, ext 11 args H = none) {H : AHeap} {x n : Int} (hn : 0 < n) (hn2 : n < 1000) : theCall Tryz.prog ext 11 [.int .i64 x, .int .i64 n] H = some (.ret (.int .i64 (x % n)), H) := by
  have h1 : ¬ (n < 1) := by omega
  have h2 := tmod_lt (x := x) hn
  have h3 := tmod_emod (x := x) hn
  have hrem := fun (x' y' : Operand) => bin_rem (P := Tryz.prog) (H := H) (t := 3) (x := x') (y := y') (k := .i64) (a := x) (b := n) (by omega)
  refine theCall_run (hx _ _) Tryz.func11 (rs := [.tmp 4]) rfl rfl rfl (by simp) fun tm hl hi => ?_
  replace hl : tm.length = 17 := hl
  have i0 := hi 0
  have i1 := hi 1
  simp only [List.getD_cons_zero, List.getD_cons_succ] at i0 i1
  by_cases hneg : x.tmod n < 0
  · rw [if_pos hneg] at h3
    have hw : IntKind.i64.wrap (x.tmod n + n) = x % n := by rw [IntWalk.i64_in _ (by omega), h3]
    simp (config := { decide := true }) only [theCode_seq, theCode_list, theCode_skip, theCode_ret, theCode_if, evalList_plain, evalList_nil, nd_move, nd_assign, nd_binOp, ok_tmp, ok_const, cl_int, opA_move, opA_assign, opA_bin, contA_val, putT_some, aev_tmp, aev_const, rd_same, rd_ne, List.length_set, thenA_normal, boolOf_bool, bin_lss, bin_add, leaveR_ret, resA_tmp, resA_nil, pack_one, Option.map_some, Option.isSome_some, ne_eq, ↓reduceIte, Nat.reduceLT, Option.some.injEq, hl, i0, i1, h1, hrem, hneg, hw]
  · rw [if_neg hneg] at h3
    simp (config := { decide := true }) only [theCode_seq, theCode_list, theCode_skip, theCode_ret, theCode_if, evalList_plain, evalList_nil, nd_move, nd_assign, nd_binOp, ok_tmp, ok_const, cl_int, opA_move, opA_assign, opA_bin, contA_val, putT_some, aev_tmp, aev_const, rd_same, rd_ne, List.length_set, thenA_normal, boolOf_bool, bin_lss, leaveR_ret, resA_tmp, resA_nil, pack_one, Option.map_some, Option.isSome_some, ne_eq, ↓reduceIte, Nat.reduceLT, Option.some.injEq, hl, i0, i1, h1, hrem, hneg]
    rw [h3]

def pk (z : Int) : Int := z % 18
def orcP : CallG := fun f args F => bif Nat.beq f 11 then (match args with
    | [.int .i64 z, .int .i64 (.ofNat n)] => bif Nat.beq n 18 then some (.ret (.int .i64 (pk z)), F) else none
    | _ => none) else none
theorem orcP_ok : CallGOK orcP (theCall Tryz.prog (extT tblX)) := by
  intro f args F e F' h
  unfold orcP at h
  cases h1 : Nat.beq f 11 with
  | false => rw [h1] at h; cases h
  | true =>
    rw [h1, cond_true] at h
    obtain rfl := Nat.eq_of_beq_eq_true h1
    split at h
    case h_2 => cases h
    rename_i z n
    cases hn : Nat.beq n 18 with
    | false => rw [hn] at h; cases h
    | true =>
      rw [hn, cond_true] at h
      obtain rfl := Nat.eq_of_beq_eq_true hn
      simp only [Option.some.injEq, Prod.mk.injEq] at h
      obtain ⟨rfl, rfl⟩ := h
      exact pick11 (fun args H => extX_inl rfl args H) (n := 18) (by decide) (by decide)
theorem hokP : HOK Tryz.prog theTabs thePlans (extT tblX) inlX (orc2 (orcT tblX) orcP) := hokX (orc2_ok orcT_ok orcP_ok)
noncomputable def callP : CallG := hCall Tryz.prog theTabs nbX 172 thePlans inlX (orc2 (orcT tblX) orcP) 3000
theorem callP_ok : CallGOK callP (theCall Tryz.prog (extT tblX)) := hCall_ok gokX hokP 3000

noncomputable def preC : Code := foldC ((seqsF Tryz.f4).take 4)
noncomputable def restC : Code := foldC ((seqsF Tryz.f4).drop 4)
noncomputable def runC (c : Code) (t : VT) (F : FH) : Option RR := (cC Tryz.prog theTabs nbX 172 159 (thePlans 4) false c).run callP kEnd t [] F
def slv (b : Nat) : Value := .slice (some ⟨b, 0, some 0⟩) 18 18
/-- What stands in the slots behind the two Picks. -/
noncomputable def slots4 (i k a b : Int) : VT := fillA 0 [.int .i64 a, .int .i64 b, undef, undef, .bool false, slv 0, slv 1, undef, undef, undef, undef, undef, undef, undef, undef, undef, slv 0, slv 1, .int .i64 i, .int .i64 a, .int .i64 k, .int .i64 b] .nil
noncomputable def heap4 : FH := match runC preC (fillA 0 [.int .i64 0, .int .i64 0] .nil) ⟨0, .nil⟩ with
  | some (_, s) => s.F
  | none => ⟨0, .nil⟩
theorem pre_run (i k : Int) : runC preC (fillA 0 [.int .i64 i, .int .i64 k] .nil) ⟨0, .nil⟩ = some (.normal, ⟨159, slots4 i k (pk i) (pk k), [], heap4⟩) := by kernel_rfl
/-- What is asked of the rest. -/
noncomputable def chk (i k : Int) (a b : Nat) : Bool := match gLeave Tryz.prog theTabs nbX 172 (codeH Tryz.prog theTabs nbX 172 callP false) [.tmp 4] (runC restC (slots4 i k (Int.ofNat a) (Int.ofNat b)) heap4) with
  | some (.ret v, _) => valBeq v (.bool true)
  | _ => false
end G
end Go.Proofs.YtejmgafhfbkbnaaGreat

namespace Go.Proofs.YtejmgafhfbkbnaaGreat
namespace G
open Go B Go.Proofs

theorem plans_pre : plansOK (thePlans 4) preC = true := by kernel_rfl
theorem plans_rest : plansOK (thePlans 4) restC = true := by kernel_rfl
theorem start4 (i k : Int) : startF Tryz.f4 [.int .i64 i, .int .i64 k] ⟨0, .nil⟩ = some ⟨159, fillA 0 [.int .i64 i, .int .i64 k] .nil, [], ⟨0, .nil⟩⟩ := by kernel_rfl
theorem body4 : Tryz.f4.body.isSome = true := by kernel_rfl
theorem results4 : Tryz.f4.results.toList = [.tmp 4] := by kernel_rfl

theorem runC_ok {c : Code} (hp : plansOK (thePlans 4) c = true) {t : VT} {F : FH} {x : AExit} {s : FSt} (h : runC c t F = some (x, s)) : theCode Tryz.prog (extT tblX) false c ⟨tmL 159 t, [], F.abs⟩ = some (x, s.abs) := by
  obtain ⟨y, m, t', d', F', h1, _, h3⟩ := cC_ok gokX callP_ok _ hp _ _ _ _ h
  simp only [kEnd, Option.some.injEq, Prod.mk.injEq] at h3
  obtain ⟨rfl, rfl⟩ := h3
  exact h1

theorem signs_run (i k : Int) (h : chk i k (pk i).toNat (pk k).toNat = true) : ∃ H', theCall Tryz.prog (extT tblX) 4 [.int .i64 i, .int .i64 k] ⟨0, fun _ => none⟩ = some (.ret (.bool true), H') := by
  have hi : Int.ofNat (pk i).toNat = pk i := by unfold pk; show ((i % 18).toNat : Int) = _; omega
  have hk : Int.ofNat (pk k).toNat = pk k := by unfold pk; show ((k % 18).toNat : Int) = _; omega
  unfold chk at h
  rw [hi, hk] at h
  obtain ⟨c, hc⟩ := Option.isSome_iff_exists.1 body4
  have hsq : seqsC c = seqsF Tryz.f4 := by unfold seqsF; rw [hc]
  split at h
  case h_2 => cases h
  rename_i v F' hl
  have hv := valBeq_eq _ _ h
  subst hv
  refine ⟨F'.abs, ?_⟩
  have e0 := startF_ok (start4 i k)
  have e1 : enterA Tryz.f4 [.int .i64 i, .int .i64 k] ⟨0, fun _ => none⟩ = ⟨tmL 159 (fillA 0 [.int .i64 i, .int .i64 k] .nil), [], FH.abs ⟨0, .nil⟩⟩ := e0
  rw [theCall_body (extX_inl rfl _ _) Tryz.func4 hc, e1, results4, theCode_seqs, hsq, theList_drop (n := 4), ← theCode_fold]
  have hpre := runC_ok plans_pre (pre_run i k)
  have hpre' : theCode Tryz.prog (extT tblX) false (foldC ((seqsF Tryz.f4).take 4)) ⟨tmL 159 (fillA 0 [.int .i64 i, .int .i64 k] .nil), [], FH.abs ⟨0, .nil⟩⟩ = some (.normal, ⟨tmL 159 (slots4 i k (pk i) (pk k)), [], heap4.abs⟩) := hpre
  rw [hpre', thenA_normal, ← theCode_fold]
  cases hr : runC restC (slots4 i k (pk i) (pk k)) heap4 with
  | none => rw [hr] at hl; cases hl
  | some q =>
    obtain ⟨x, s⟩ := q
    rw [hr] at hl
    have hrest := runC_ok plans_rest hr
    have hrest' : theCode Tryz.prog (extT tblX) false (foldC ((seqsF Tryz.f4).drop 4)) ⟨tmL 159 (slots4 i k (pk i) (pk k)), [], heap4.abs⟩ = some (x, s.abs) := hrest
    rw [hrest']
    exact gLeave_ok gokX (codeH_ok gokX callP_ok false) hl

theorem signs_any (hall : ∀ (i k : Int) (a b : Nat), a < 18 → b < 18 → chk i k a b = true) (i k : Int) : ∃ H', theCall Tryz.prog (extT tblX) 4 [.int .i64 i, .int .i64 k] ⟨0, fun _ => none⟩ = some (.ret (.bool true), H') :=
  signs_run i k (hall i k _ _ (by unfold pk; omega) (by unfold pk; omega))
end G
end Go.Proofs.YtejmgafhfbkbnaaGreat
