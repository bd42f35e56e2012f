/- Helpers of this claim: an evaluator over plain values and its laws. -/
import Derived.Test.YtmmmdmandocbhaaDoorAu
import Derived.Test.YtmmmdmandocbhaaDoorProg
section
/- Facts of the program, as rules for simp (printed by gen_seat.py). -/
set_option linter.unusedVariables false
set_option maxRecDepth 20000
namespace Go.Proofs.YtmmmdmandocbhaaDoor
open Go Go.Proofs.YtmmmdmandocbhaaDoor.Den
@[simp] theorem info0 : Tryd.prog.info? 0 = some Tryd.t0 := Tryd.type0
@[simp] theorem cells0 : Tryd.prog.cellsOf 0 = Tryd.t0.size := by simp [Program.cellsOf]
@[simp] theorem size0 : Tryd.t0.size = 1 := _root_.id rfl
@[simp] theorem info1 : Tryd.prog.info? 1 = some Tryd.t1 := Tryd.type1
@[simp] theorem cells1 : Tryd.prog.cellsOf 1 = Tryd.t1.size := by simp [Program.cellsOf]
@[simp] theorem size1 : Tryd.t1.size = 1 := _root_.id rfl
@[simp] theorem info2 : Tryd.prog.info? 2 = some Tryd.t2 := Tryd.type2
@[simp] theorem cells2 : Tryd.prog.cellsOf 2 = Tryd.t2.size := by simp [Program.cellsOf]
@[simp] theorem size2 : Tryd.t2.size = 1 := _root_.id rfl
@[simp] theorem info3 : Tryd.prog.info? 3 = some Tryd.t3 := Tryd.type3
@[simp] theorem cells3 : Tryd.prog.cellsOf 3 = Tryd.t3.size := by simp [Program.cellsOf]
@[simp] theorem size3 : Tryd.t3.size = 1 := _root_.id rfl
@[simp] theorem info4 : Tryd.prog.info? 4 = some Tryd.t4 := Tryd.type4
@[simp] theorem cells4 : Tryd.prog.cellsOf 4 = Tryd.t4.size := by simp [Program.cellsOf]
@[simp] theorem size4 : Tryd.t4.size = 1 := _root_.id rfl
@[simp] theorem info5 : Tryd.prog.info? 5 = some Tryd.t5 := Tryd.type5
@[simp] theorem cells5 : Tryd.prog.cellsOf 5 = Tryd.t5.size := by simp [Program.cellsOf]
@[simp] theorem size5 : Tryd.t5.size = 1 := _root_.id rfl
@[simp] theorem info6 : Tryd.prog.info? 6 = some Tryd.t6 := Tryd.type6
@[simp] theorem cells6 : Tryd.prog.cellsOf 6 = Tryd.t6.size := by simp [Program.cellsOf]
@[simp] theorem size6 : Tryd.t6.size = 1 := _root_.id rfl
@[simp] theorem info7 : Tryd.prog.info? 7 = some Tryd.t7 := Tryd.type7
@[simp] theorem cells7 : Tryd.prog.cellsOf 7 = Tryd.t7.size := by simp [Program.cellsOf]
@[simp] theorem size7 : Tryd.t7.size = 4 := _root_.id rfl
@[simp] theorem info8 : Tryd.prog.info? 8 = some Tryd.t8 := Tryd.type8
@[simp] theorem cells8 : Tryd.prog.cellsOf 8 = Tryd.t8.size := by simp [Program.cellsOf]
@[simp] theorem size8 : Tryd.t8.size = 4 := _root_.id rfl
@[simp] theorem info9 : Tryd.prog.info? 9 = some Tryd.t9 := Tryd.type9
@[simp] theorem cells9 : Tryd.prog.cellsOf 9 = Tryd.t9.size := by simp [Program.cellsOf]
@[simp] theorem size9 : Tryd.t9.size = 1 := _root_.id rfl
@[simp] theorem info10 : Tryd.prog.info? 10 = some Tryd.t10 := Tryd.type10
@[simp] theorem cells10 : Tryd.prog.cellsOf 10 = Tryd.t10.size := by simp [Program.cellsOf]
@[simp] theorem size10 : Tryd.t10.size = 1 := _root_.id rfl
@[simp] theorem info11 : Tryd.prog.info? 11 = some Tryd.t11 := Tryd.type11
@[simp] theorem cells11 : Tryd.prog.cellsOf 11 = Tryd.t11.size := by simp [Program.cellsOf]
@[simp] theorem size11 : Tryd.t11.size = 1 := _root_.id rfl
@[simp] theorem info12 : Tryd.prog.info? 12 = some Tryd.t12 := Tryd.type12
@[simp] theorem cells12 : Tryd.prog.cellsOf 12 = Tryd.t12.size := by simp [Program.cellsOf]
@[simp] theorem size12 : Tryd.t12.size = 1 := _root_.id rfl
@[simp] theorem info13 : Tryd.prog.info? 13 = some Tryd.t13 := Tryd.type13
@[simp] theorem cells13 : Tryd.prog.cellsOf 13 = Tryd.t13.size := by simp [Program.cellsOf]
@[simp] theorem size13 : Tryd.t13.size = 2 := _root_.id rfl
@[simp] theorem info14 : Tryd.prog.info? 14 = some Tryd.t14 := Tryd.type14
@[simp] theorem cells14 : Tryd.prog.cellsOf 14 = Tryd.t14.size := by simp [Program.cellsOf]
@[simp] theorem size14 : Tryd.t14.size = 2 := _root_.id rfl
@[simp] theorem info15 : Tryd.prog.info? 15 = some Tryd.t15 := Tryd.type15
@[simp] theorem cells15 : Tryd.prog.cellsOf 15 = Tryd.t15.size := by simp [Program.cellsOf]
@[simp] theorem size15 : Tryd.t15.size = 1 := _root_.id rfl
@[simp] theorem info16 : Tryd.prog.info? 16 = some Tryd.t16 := Tryd.type16
@[simp] theorem cells16 : Tryd.prog.cellsOf 16 = Tryd.t16.size := by simp [Program.cellsOf]
@[simp] theorem size16 : Tryd.t16.size = 1 := _root_.id rfl
@[simp] theorem info17 : Tryd.prog.info? 17 = some Tryd.t17 := Tryd.type17
@[simp] theorem cells17 : Tryd.prog.cellsOf 17 = Tryd.t17.size := by simp [Program.cellsOf]
@[simp] theorem size17 : Tryd.t17.size = 1 := _root_.id rfl
@[simp] theorem info18 : Tryd.prog.info? 18 = some Tryd.t18 := Tryd.type18
@[simp] theorem cells18 : Tryd.prog.cellsOf 18 = Tryd.t18.size := by simp [Program.cellsOf]
@[simp] theorem size18 : Tryd.t18.size = 1 := _root_.id rfl
@[simp] theorem info19 : Tryd.prog.info? 19 = some Tryd.t19 := Tryd.type19
@[simp] theorem cells19 : Tryd.prog.cellsOf 19 = Tryd.t19.size := by simp [Program.cellsOf]
@[simp] theorem size19 : Tryd.t19.size = 1 := _root_.id rfl
@[simp] theorem info20 : Tryd.prog.info? 20 = some Tryd.t20 := Tryd.type20
@[simp] theorem cells20 : Tryd.prog.cellsOf 20 = Tryd.t20.size := by simp [Program.cellsOf]
@[simp] theorem size20 : Tryd.t20.size = 1 := _root_.id rfl
@[simp] theorem info21 : Tryd.prog.info? 21 = some Tryd.t21 := Tryd.type21
@[simp] theorem cells21 : Tryd.prog.cellsOf 21 = Tryd.t21.size := by simp [Program.cellsOf]
@[simp] theorem size21 : Tryd.t21.size = 1 := _root_.id rfl
@[simp] theorem info22 : Tryd.prog.info? 22 = some Tryd.t22 := Tryd.type22
@[simp] theorem cells22 : Tryd.prog.cellsOf 22 = Tryd.t22.size := by simp [Program.cellsOf]
@[simp] theorem size22 : Tryd.t22.size = 1 := _root_.id rfl
@[simp] theorem info23 : Tryd.prog.info? 23 = some Tryd.t23 := Tryd.type23
@[simp] theorem cells23 : Tryd.prog.cellsOf 23 = Tryd.t23.size := by simp [Program.cellsOf]
@[simp] theorem size23 : Tryd.t23.size = 1 := _root_.id rfl
@[simp] theorem info24 : Tryd.prog.info? 24 = some Tryd.t24 := Tryd.type24
@[simp] theorem cells24 : Tryd.prog.cellsOf 24 = Tryd.t24.size := by simp [Program.cellsOf]
@[simp] theorem size24 : Tryd.t24.size = 1 := _root_.id rfl
@[simp] theorem info25 : Tryd.prog.info? 25 = some Tryd.t25 := Tryd.type25
@[simp] theorem cells25 : Tryd.prog.cellsOf 25 = Tryd.t25.size := by simp [Program.cellsOf]
@[simp] theorem size25 : Tryd.t25.size = 1 := _root_.id rfl
@[simp] theorem info26 : Tryd.prog.info? 26 = some Tryd.t26 := Tryd.type26
@[simp] theorem cells26 : Tryd.prog.cellsOf 26 = Tryd.t26.size := by simp [Program.cellsOf]
@[simp] theorem size26 : Tryd.t26.size = 1 := _root_.id rfl
@[simp] theorem info27 : Tryd.prog.info? 27 = some Tryd.t27 := Tryd.type27
@[simp] theorem cells27 : Tryd.prog.cellsOf 27 = Tryd.t27.size := by simp [Program.cellsOf]
@[simp] theorem size27 : Tryd.t27.size = 1 := _root_.id rfl
@[simp] theorem info28 : Tryd.prog.info? 28 = some Tryd.t28 := Tryd.type28
@[simp] theorem cells28 : Tryd.prog.cellsOf 28 = Tryd.t28.size := by simp [Program.cellsOf]
@[simp] theorem size28 : Tryd.t28.size = 1 := _root_.id rfl
@[simp] theorem info29 : Tryd.prog.info? 29 = some Tryd.t29 := Tryd.type29
@[simp] theorem cells29 : Tryd.prog.cellsOf 29 = Tryd.t29.size := by simp [Program.cellsOf]
@[simp] theorem size29 : Tryd.t29.size = 1 := _root_.id rfl
@[simp] theorem info30 : Tryd.prog.info? 30 = some Tryd.t30 := Tryd.type30
@[simp] theorem cells30 : Tryd.prog.cellsOf 30 = Tryd.t30.size := by simp [Program.cellsOf]
@[simp] theorem size30 : Tryd.t30.size = 4 := _root_.id rfl
@[simp] theorem info31 : Tryd.prog.info? 31 = some Tryd.t31 := Tryd.type31
@[simp] theorem cells31 : Tryd.prog.cellsOf 31 = Tryd.t31.size := by simp [Program.cellsOf]
@[simp] theorem size31 : Tryd.t31.size = 4 := _root_.id rfl
@[simp] theorem info32 : Tryd.prog.info? 32 = some Tryd.t32 := Tryd.type32
@[simp] theorem cells32 : Tryd.prog.cellsOf 32 = Tryd.t32.size := by simp [Program.cellsOf]
@[simp] theorem size32 : Tryd.t32.size = 10 := _root_.id rfl
@[simp] theorem info33 : Tryd.prog.info? 33 = some Tryd.t33 := Tryd.type33
@[simp] theorem cells33 : Tryd.prog.cellsOf 33 = Tryd.t33.size := by simp [Program.cellsOf]
@[simp] theorem size33 : Tryd.t33.size = 10 := _root_.id rfl
@[simp] theorem info34 : Tryd.prog.info? 34 = some Tryd.t34 := Tryd.type34
@[simp] theorem cells34 : Tryd.prog.cellsOf 34 = Tryd.t34.size := by simp [Program.cellsOf]
@[simp] theorem size34 : Tryd.t34.size = 1 := _root_.id rfl
@[simp] theorem info35 : Tryd.prog.info? 35 = some Tryd.t35 := Tryd.type35
@[simp] theorem cells35 : Tryd.prog.cellsOf 35 = Tryd.t35.size := by simp [Program.cellsOf]
@[simp] theorem size35 : Tryd.t35.size = 1 := _root_.id rfl
@[simp] theorem info36 : Tryd.prog.info? 36 = some Tryd.t36 := Tryd.type36
@[simp] theorem cells36 : Tryd.prog.cellsOf 36 = Tryd.t36.size := by simp [Program.cellsOf]
@[simp] theorem size36 : Tryd.t36.size = 1 := _root_.id rfl
@[simp] theorem info37 : Tryd.prog.info? 37 = some Tryd.t37 := Tryd.type37
@[simp] theorem cells37 : Tryd.prog.cellsOf 37 = Tryd.t37.size := by simp [Program.cellsOf]
@[simp] theorem size37 : Tryd.t37.size = 1 := _root_.id rfl
@[simp] theorem info38 : Tryd.prog.info? 38 = some Tryd.t38 := Tryd.type38
@[simp] theorem cells38 : Tryd.prog.cellsOf 38 = Tryd.t38.size := by simp [Program.cellsOf]
@[simp] theorem size38 : Tryd.t38.size = 1 := _root_.id rfl
@[simp] theorem info39 : Tryd.prog.info? 39 = some Tryd.t39 := Tryd.type39
@[simp] theorem cells39 : Tryd.prog.cellsOf 39 = Tryd.t39.size := by simp [Program.cellsOf]
@[simp] theorem size39 : Tryd.t39.size = 1 := _root_.id rfl
@[simp] theorem info40 : Tryd.prog.info? 40 = some Tryd.t40 := Tryd.type40
@[simp] theorem cells40 : Tryd.prog.cellsOf 40 = Tryd.t40.size := by simp [Program.cellsOf]
@[simp] theorem size40 : Tryd.t40.size = 1 := _root_.id rfl
@[simp] theorem info41 : Tryd.prog.info? 41 = some Tryd.t41 := Tryd.type41
@[simp] theorem cells41 : Tryd.prog.cellsOf 41 = Tryd.t41.size := by simp [Program.cellsOf]
@[simp] theorem size41 : Tryd.t41.size = 1 := _root_.id rfl
@[simp] theorem info42 : Tryd.prog.info? 42 = some Tryd.t42 := Tryd.type42
@[simp] theorem cells42 : Tryd.prog.cellsOf 42 = Tryd.t42.size := by simp [Program.cellsOf]
@[simp] theorem size42 : Tryd.t42.size = 1 := _root_.id rfl
@[simp] theorem info43 : Tryd.prog.info? 43 = some Tryd.t43 := Tryd.type43
@[simp] theorem cells43 : Tryd.prog.cellsOf 43 = Tryd.t43.size := by simp [Program.cellsOf]
@[simp] theorem size43 : Tryd.t43.size = 1 := _root_.id rfl
@[simp] theorem info44 : Tryd.prog.info? 44 = some Tryd.t44 := Tryd.type44
@[simp] theorem cells44 : Tryd.prog.cellsOf 44 = Tryd.t44.size := by simp [Program.cellsOf]
@[simp] theorem size44 : Tryd.t44.size = 1 := _root_.id rfl
@[simp] theorem info45 : Tryd.prog.info? 45 = some Tryd.t45 := Tryd.type45
@[simp] theorem cells45 : Tryd.prog.cellsOf 45 = Tryd.t45.size := by simp [Program.cellsOf]
@[simp] theorem size45 : Tryd.t45.size = 5 := _root_.id rfl
@[simp] theorem info46 : Tryd.prog.info? 46 = some Tryd.t46 := Tryd.type46
@[simp] theorem cells46 : Tryd.prog.cellsOf 46 = Tryd.t46.size := by simp [Program.cellsOf]
@[simp] theorem size46 : Tryd.t46.size = 5 := _root_.id rfl
@[simp] theorem info47 : Tryd.prog.info? 47 = some Tryd.t47 := Tryd.type47
@[simp] theorem cells47 : Tryd.prog.cellsOf 47 = Tryd.t47.size := by simp [Program.cellsOf]
@[simp] theorem size47 : Tryd.t47.size = 1 := _root_.id rfl
@[simp] theorem info48 : Tryd.prog.info? 48 = some Tryd.t48 := Tryd.type48
@[simp] theorem cells48 : Tryd.prog.cellsOf 48 = Tryd.t48.size := by simp [Program.cellsOf]
@[simp] theorem size48 : Tryd.t48.size = 1 := _root_.id rfl
@[simp] theorem info49 : Tryd.prog.info? 49 = some Tryd.t49 := Tryd.type49
@[simp] theorem cells49 : Tryd.prog.cellsOf 49 = Tryd.t49.size := by simp [Program.cellsOf]
@[simp] theorem size49 : Tryd.t49.size = 1 := _root_.id rfl
@[simp] theorem info50 : Tryd.prog.info? 50 = some Tryd.t50 := Tryd.type50
@[simp] theorem cells50 : Tryd.prog.cellsOf 50 = Tryd.t50.size := by simp [Program.cellsOf]
@[simp] theorem size50 : Tryd.t50.size = 1 := _root_.id rfl
@[simp] theorem info51 : Tryd.prog.info? 51 = some Tryd.t51 := Tryd.type51
@[simp] theorem cells51 : Tryd.prog.cellsOf 51 = Tryd.t51.size := by simp [Program.cellsOf]
@[simp] theorem size51 : Tryd.t51.size = 4 := _root_.id rfl
@[simp] theorem info52 : Tryd.prog.info? 52 = some Tryd.t52 := Tryd.type52
@[simp] theorem cells52 : Tryd.prog.cellsOf 52 = Tryd.t52.size := by simp [Program.cellsOf]
@[simp] theorem size52 : Tryd.t52.size = 4 := _root_.id rfl
@[simp] theorem info53 : Tryd.prog.info? 53 = some Tryd.t53 := Tryd.type53
@[simp] theorem cells53 : Tryd.prog.cellsOf 53 = Tryd.t53.size := by simp [Program.cellsOf]
@[simp] theorem size53 : Tryd.t53.size = 64 := _root_.id rfl
@[simp] theorem info54 : Tryd.prog.info? 54 = some Tryd.t54 := Tryd.type54
@[simp] theorem cells54 : Tryd.prog.cellsOf 54 = Tryd.t54.size := by simp [Program.cellsOf]
@[simp] theorem size54 : Tryd.t54.size = 1024 := _root_.id rfl
@[simp] theorem info55 : Tryd.prog.info? 55 = some Tryd.t55 := Tryd.type55
@[simp] theorem cells55 : Tryd.prog.cellsOf 55 = Tryd.t55.size := by simp [Program.cellsOf]
@[simp] theorem size55 : Tryd.t55.size = 16 := _root_.id rfl
@[simp] theorem info56 : Tryd.prog.info? 56 = some Tryd.t56 := Tryd.type56
@[simp] theorem cells56 : Tryd.prog.cellsOf 56 = Tryd.t56.size := by simp [Program.cellsOf]
@[simp] theorem size56 : Tryd.t56.size = 16 := _root_.id rfl
@[simp] theorem info57 : Tryd.prog.info? 57 = some Tryd.t57 := Tryd.type57
@[simp] theorem cells57 : Tryd.prog.cellsOf 57 = Tryd.t57.size := by simp [Program.cellsOf]
@[simp] theorem size57 : Tryd.t57.size = 1 := _root_.id rfl
@[simp] theorem info58 : Tryd.prog.info? 58 = some Tryd.t58 := Tryd.type58
@[simp] theorem cells58 : Tryd.prog.cellsOf 58 = Tryd.t58.size := by simp [Program.cellsOf]
@[simp] theorem size58 : Tryd.t58.size = 1066 := _root_.id rfl
@[simp] theorem info59 : Tryd.prog.info? 59 = some Tryd.t59 := Tryd.type59
@[simp] theorem cells59 : Tryd.prog.cellsOf 59 = Tryd.t59.size := by simp [Program.cellsOf]
@[simp] theorem size59 : Tryd.t59.size = 1066 := _root_.id rfl
@[simp] theorem info60 : Tryd.prog.info? 60 = some Tryd.t60 := Tryd.type60
@[simp] theorem cells60 : Tryd.prog.cellsOf 60 = Tryd.t60.size := by simp [Program.cellsOf]
@[simp] theorem size60 : Tryd.t60.size = 1 := _root_.id rfl
@[simp] theorem info61 : Tryd.prog.info? 61 = some Tryd.t61 := Tryd.type61
@[simp] theorem cells61 : Tryd.prog.cellsOf 61 = Tryd.t61.size := by simp [Program.cellsOf]
@[simp] theorem size61 : Tryd.t61.size = 1 := _root_.id rfl
@[simp] theorem info62 : Tryd.prog.info? 62 = some Tryd.t62 := Tryd.type62
@[simp] theorem cells62 : Tryd.prog.cellsOf 62 = Tryd.t62.size := by simp [Program.cellsOf]
@[simp] theorem size62 : Tryd.t62.size = 1 := _root_.id rfl
@[simp] theorem info63 : Tryd.prog.info? 63 = some Tryd.t63 := Tryd.type63
@[simp] theorem cells63 : Tryd.prog.cellsOf 63 = Tryd.t63.size := by simp [Program.cellsOf]
@[simp] theorem size63 : Tryd.t63.size = 1 := _root_.id rfl
@[simp] theorem info64 : Tryd.prog.info? 64 = some Tryd.t64 := Tryd.type64
@[simp] theorem cells64 : Tryd.prog.cellsOf 64 = Tryd.t64.size := by simp [Program.cellsOf]
@[simp] theorem size64 : Tryd.t64.size = 1 := _root_.id rfl
@[simp] theorem info65 : Tryd.prog.info? 65 = some Tryd.t65 := Tryd.type65
@[simp] theorem cells65 : Tryd.prog.cellsOf 65 = Tryd.t65.size := by simp [Program.cellsOf]
@[simp] theorem size65 : Tryd.t65.size = 2 := _root_.id rfl
@[simp] theorem info66 : Tryd.prog.info? 66 = some Tryd.t66 := Tryd.type66
@[simp] theorem cells66 : Tryd.prog.cellsOf 66 = Tryd.t66.size := by simp [Program.cellsOf]
@[simp] theorem size66 : Tryd.t66.size = 2 := _root_.id rfl
@[simp] theorem info67 : Tryd.prog.info? 67 = some Tryd.t67 := Tryd.type67
@[simp] theorem cells67 : Tryd.prog.cellsOf 67 = Tryd.t67.size := by simp [Program.cellsOf]
@[simp] theorem size67 : Tryd.t67.size = 1 := _root_.id rfl
@[simp] theorem info68 : Tryd.prog.info? 68 = some Tryd.t68 := Tryd.type68
@[simp] theorem cells68 : Tryd.prog.cellsOf 68 = Tryd.t68.size := by simp [Program.cellsOf]
@[simp] theorem size68 : Tryd.t68.size = 1 := _root_.id rfl
@[simp] theorem info69 : Tryd.prog.info? 69 = some Tryd.t69 := Tryd.type69
@[simp] theorem cells69 : Tryd.prog.cellsOf 69 = Tryd.t69.size := by simp [Program.cellsOf]
@[simp] theorem size69 : Tryd.t69.size = 1 := _root_.id rfl
@[simp] theorem info70 : Tryd.prog.info? 70 = some Tryd.t70 := Tryd.type70
@[simp] theorem cells70 : Tryd.prog.cellsOf 70 = Tryd.t70.size := by simp [Program.cellsOf]
@[simp] theorem size70 : Tryd.t70.size = 1 := _root_.id rfl
@[simp] theorem info71 : Tryd.prog.info? 71 = some Tryd.t71 := Tryd.type71
@[simp] theorem cells71 : Tryd.prog.cellsOf 71 = Tryd.t71.size := by simp [Program.cellsOf]
@[simp] theorem size71 : Tryd.t71.size = 1 := _root_.id rfl
@[simp] theorem info72 : Tryd.prog.info? 72 = some Tryd.t72 := Tryd.type72
@[simp] theorem cells72 : Tryd.prog.cellsOf 72 = Tryd.t72.size := by simp [Program.cellsOf]
@[simp] theorem size72 : Tryd.t72.size = 1 := _root_.id rfl
@[simp] theorem info73 : Tryd.prog.info? 73 = some Tryd.t73 := Tryd.type73
@[simp] theorem cells73 : Tryd.prog.cellsOf 73 = Tryd.t73.size := by simp [Program.cellsOf]
@[simp] theorem size73 : Tryd.t73.size = 1 := _root_.id rfl
@[simp] theorem info74 : Tryd.prog.info? 74 = some Tryd.t74 := Tryd.type74
@[simp] theorem cells74 : Tryd.prog.cellsOf 74 = Tryd.t74.size := by simp [Program.cellsOf]
@[simp] theorem size74 : Tryd.t74.size = 1 := _root_.id rfl
@[simp] theorem info75 : Tryd.prog.info? 75 = some Tryd.t75 := Tryd.type75
@[simp] theorem cells75 : Tryd.prog.cellsOf 75 = Tryd.t75.size := by simp [Program.cellsOf]
@[simp] theorem size75 : Tryd.t75.size = 6 := _root_.id rfl
@[simp] theorem info76 : Tryd.prog.info? 76 = some Tryd.t76 := Tryd.type76
@[simp] theorem cells76 : Tryd.prog.cellsOf 76 = Tryd.t76.size := by simp [Program.cellsOf]
@[simp] theorem size76 : Tryd.t76.size = 6 := _root_.id rfl
@[simp] theorem info77 : Tryd.prog.info? 77 = some Tryd.t77 := Tryd.type77
@[simp] theorem cells77 : Tryd.prog.cellsOf 77 = Tryd.t77.size := by simp [Program.cellsOf]
@[simp] theorem size77 : Tryd.t77.size = 1 := _root_.id rfl
@[simp] theorem info78 : Tryd.prog.info? 78 = some Tryd.t78 := Tryd.type78
@[simp] theorem cells78 : Tryd.prog.cellsOf 78 = Tryd.t78.size := by simp [Program.cellsOf]
@[simp] theorem size78 : Tryd.t78.size = 1 := _root_.id rfl
@[simp] theorem info79 : Tryd.prog.info? 79 = some Tryd.t79 := Tryd.type79
@[simp] theorem cells79 : Tryd.prog.cellsOf 79 = Tryd.t79.size := by simp [Program.cellsOf]
@[simp] theorem size79 : Tryd.t79.size = 1 := _root_.id rfl
@[simp] theorem info80 : Tryd.prog.info? 80 = some Tryd.t80 := Tryd.type80
@[simp] theorem cells80 : Tryd.prog.cellsOf 80 = Tryd.t80.size := by simp [Program.cellsOf]
@[simp] theorem size80 : Tryd.t80.size = 1 := _root_.id rfl
@[simp] theorem info81 : Tryd.prog.info? 81 = some Tryd.t81 := Tryd.type81
@[simp] theorem cells81 : Tryd.prog.cellsOf 81 = Tryd.t81.size := by simp [Program.cellsOf]
@[simp] theorem size81 : Tryd.t81.size = 1 := _root_.id rfl
@[simp] theorem info82 : Tryd.prog.info? 82 = some Tryd.t82 := Tryd.type82
@[simp] theorem cells82 : Tryd.prog.cellsOf 82 = Tryd.t82.size := by simp [Program.cellsOf]
@[simp] theorem size82 : Tryd.t82.size = 1 := _root_.id rfl
@[simp] theorem info83 : Tryd.prog.info? 83 = some Tryd.t83 := Tryd.type83
@[simp] theorem cells83 : Tryd.prog.cellsOf 83 = Tryd.t83.size := by simp [Program.cellsOf]
@[simp] theorem size83 : Tryd.t83.size = 1 := _root_.id rfl
@[simp] theorem info84 : Tryd.prog.info? 84 = some Tryd.t84 := Tryd.type84
@[simp] theorem cells84 : Tryd.prog.cellsOf 84 = Tryd.t84.size := by simp [Program.cellsOf]
@[simp] theorem size84 : Tryd.t84.size = 1 := _root_.id rfl
@[simp] theorem info85 : Tryd.prog.info? 85 = some Tryd.t85 := Tryd.type85
@[simp] theorem cells85 : Tryd.prog.cellsOf 85 = Tryd.t85.size := by simp [Program.cellsOf]
@[simp] theorem size85 : Tryd.t85.size = 1 := _root_.id rfl
@[simp] theorem info86 : Tryd.prog.info? 86 = some Tryd.t86 := Tryd.type86
@[simp] theorem cells86 : Tryd.prog.cellsOf 86 = Tryd.t86.size := by simp [Program.cellsOf]
@[simp] theorem size86 : Tryd.t86.size = 1 := _root_.id rfl
@[simp] theorem info87 : Tryd.prog.info? 87 = some Tryd.t87 := Tryd.type87
@[simp] theorem cells87 : Tryd.prog.cellsOf 87 = Tryd.t87.size := by simp [Program.cellsOf]
@[simp] theorem size87 : Tryd.t87.size = 1 := _root_.id rfl
@[simp] theorem info88 : Tryd.prog.info? 88 = some Tryd.t88 := Tryd.type88
@[simp] theorem cells88 : Tryd.prog.cellsOf 88 = Tryd.t88.size := by simp [Program.cellsOf]
@[simp] theorem size88 : Tryd.t88.size = 1 := _root_.id rfl
@[simp] theorem info89 : Tryd.prog.info? 89 = some Tryd.t89 := Tryd.type89
@[simp] theorem cells89 : Tryd.prog.cellsOf 89 = Tryd.t89.size := by simp [Program.cellsOf]
@[simp] theorem size89 : Tryd.t89.size = 1 := _root_.id rfl
@[simp] theorem info90 : Tryd.prog.info? 90 = some Tryd.t90 := Tryd.type90
@[simp] theorem cells90 : Tryd.prog.cellsOf 90 = Tryd.t90.size := by simp [Program.cellsOf]
@[simp] theorem size90 : Tryd.t90.size = 1 := _root_.id rfl
@[simp] theorem info91 : Tryd.prog.info? 91 = some Tryd.t91 := Tryd.type91
@[simp] theorem cells91 : Tryd.prog.cellsOf 91 = Tryd.t91.size := by simp [Program.cellsOf]
@[simp] theorem size91 : Tryd.t91.size = 1 := _root_.id rfl
@[simp] theorem info92 : Tryd.prog.info? 92 = some Tryd.t92 := Tryd.type92
@[simp] theorem cells92 : Tryd.prog.cellsOf 92 = Tryd.t92.size := by simp [Program.cellsOf]
@[simp] theorem size92 : Tryd.t92.size = 1 := _root_.id rfl
@[simp] theorem info93 : Tryd.prog.info? 93 = some Tryd.t93 := Tryd.type93
@[simp] theorem cells93 : Tryd.prog.cellsOf 93 = Tryd.t93.size := by simp [Program.cellsOf]
@[simp] theorem size93 : Tryd.t93.size = 1 := _root_.id rfl
@[simp] theorem info94 : Tryd.prog.info? 94 = some Tryd.t94 := Tryd.type94
@[simp] theorem cells94 : Tryd.prog.cellsOf 94 = Tryd.t94.size := by simp [Program.cellsOf]
@[simp] theorem size94 : Tryd.t94.size = 1 := _root_.id rfl
@[simp] theorem info95 : Tryd.prog.info? 95 = some Tryd.t95 := Tryd.type95
@[simp] theorem cells95 : Tryd.prog.cellsOf 95 = Tryd.t95.size := by simp [Program.cellsOf]
@[simp] theorem size95 : Tryd.t95.size = 1 := _root_.id rfl
@[simp] theorem info96 : Tryd.prog.info? 96 = some Tryd.t96 := Tryd.type96
@[simp] theorem cells96 : Tryd.prog.cellsOf 96 = Tryd.t96.size := by simp [Program.cellsOf]
@[simp] theorem size96 : Tryd.t96.size = 1 := _root_.id rfl
@[simp] theorem info97 : Tryd.prog.info? 97 = some Tryd.t97 := Tryd.type97
@[simp] theorem cells97 : Tryd.prog.cellsOf 97 = Tryd.t97.size := by simp [Program.cellsOf]
@[simp] theorem size97 : Tryd.t97.size = 1 := _root_.id rfl
@[simp] theorem info98 : Tryd.prog.info? 98 = some Tryd.t98 := Tryd.type98
@[simp] theorem cells98 : Tryd.prog.cellsOf 98 = Tryd.t98.size := by simp [Program.cellsOf]
@[simp] theorem size98 : Tryd.t98.size = 1 := _root_.id rfl
@[simp] theorem info99 : Tryd.prog.info? 99 = some Tryd.t99 := Tryd.type99
@[simp] theorem cells99 : Tryd.prog.cellsOf 99 = Tryd.t99.size := by simp [Program.cellsOf]
@[simp] theorem size99 : Tryd.t99.size = 1 := _root_.id rfl
@[simp] theorem info100 : Tryd.prog.info? 100 = some Tryd.t100 := Tryd.type100
@[simp] theorem cells100 : Tryd.prog.cellsOf 100 = Tryd.t100.size := by simp [Program.cellsOf]
@[simp] theorem size100 : Tryd.t100.size = 1 := _root_.id rfl
@[simp] theorem info101 : Tryd.prog.info? 101 = some Tryd.t101 := Tryd.type101
@[simp] theorem cells101 : Tryd.prog.cellsOf 101 = Tryd.t101.size := by simp [Program.cellsOf]
@[simp] theorem size101 : Tryd.t101.size = 24 := _root_.id rfl
@[simp] theorem info102 : Tryd.prog.info? 102 = some Tryd.t102 := Tryd.type102
@[simp] theorem cells102 : Tryd.prog.cellsOf 102 = Tryd.t102.size := by simp [Program.cellsOf]
@[simp] theorem size102 : Tryd.t102.size = 1 := _root_.id rfl
@[simp] theorem info103 : Tryd.prog.info? 103 = some Tryd.t103 := Tryd.type103
@[simp] theorem cells103 : Tryd.prog.cellsOf 103 = Tryd.t103.size := by simp [Program.cellsOf]
@[simp] theorem size103 : Tryd.t103.size = 1 := _root_.id rfl
@[simp] theorem info104 : Tryd.prog.info? 104 = some Tryd.t104 := Tryd.type104
@[simp] theorem cells104 : Tryd.prog.cellsOf 104 = Tryd.t104.size := by simp [Program.cellsOf]
@[simp] theorem size104 : Tryd.t104.size = 1 := _root_.id rfl
@[simp] theorem info105 : Tryd.prog.info? 105 = some Tryd.t105 := Tryd.type105
@[simp] theorem cells105 : Tryd.prog.cellsOf 105 = Tryd.t105.size := by simp [Program.cellsOf]
@[simp] theorem size105 : Tryd.t105.size = 1 := _root_.id rfl
@[simp] theorem info106 : Tryd.prog.info? 106 = some Tryd.t106 := Tryd.type106
@[simp] theorem cells106 : Tryd.prog.cellsOf 106 = Tryd.t106.size := by simp [Program.cellsOf]
@[simp] theorem size106 : Tryd.t106.size = 1 := _root_.id rfl
@[simp] theorem info107 : Tryd.prog.info? 107 = some Tryd.t107 := Tryd.type107
@[simp] theorem cells107 : Tryd.prog.cellsOf 107 = Tryd.t107.size := by simp [Program.cellsOf]
@[simp] theorem size107 : Tryd.t107.size = 1 := _root_.id rfl
@[simp] theorem info108 : Tryd.prog.info? 108 = some Tryd.t108 := Tryd.type108
@[simp] theorem cells108 : Tryd.prog.cellsOf 108 = Tryd.t108.size := by simp [Program.cellsOf]
@[simp] theorem size108 : Tryd.t108.size = 1 := _root_.id rfl
@[simp] theorem info109 : Tryd.prog.info? 109 = some Tryd.t109 := Tryd.type109
@[simp] theorem cells109 : Tryd.prog.cellsOf 109 = Tryd.t109.size := by simp [Program.cellsOf]
@[simp] theorem size109 : Tryd.t109.size = 20 := _root_.id rfl
@[simp] theorem info110 : Tryd.prog.info? 110 = some Tryd.t110 := Tryd.type110
@[simp] theorem cells110 : Tryd.prog.cellsOf 110 = Tryd.t110.size := by simp [Program.cellsOf]
@[simp] theorem size110 : Tryd.t110.size = 1 := _root_.id rfl
@[simp] theorem info111 : Tryd.prog.info? 111 = some Tryd.t111 := Tryd.type111
@[simp] theorem cells111 : Tryd.prog.cellsOf 111 = Tryd.t111.size := by simp [Program.cellsOf]
@[simp] theorem size111 : Tryd.t111.size = 65 := _root_.id rfl
@[simp] theorem info112 : Tryd.prog.info? 112 = some Tryd.t112 := Tryd.type112
@[simp] theorem cells112 : Tryd.prog.cellsOf 112 = Tryd.t112.size := by simp [Program.cellsOf]
@[simp] theorem size112 : Tryd.t112.size = 1 := _root_.id rfl
@[simp] theorem info113 : Tryd.prog.info? 113 = some Tryd.t113 := Tryd.type113
@[simp] theorem cells113 : Tryd.prog.cellsOf 113 = Tryd.t113.size := by simp [Program.cellsOf]
@[simp] theorem size113 : Tryd.t113.size = 1 := _root_.id rfl
@[simp] theorem info114 : Tryd.prog.info? 114 = some Tryd.t114 := Tryd.type114
@[simp] theorem cells114 : Tryd.prog.cellsOf 114 = Tryd.t114.size := by simp [Program.cellsOf]
@[simp] theorem size114 : Tryd.t114.size = 1 := _root_.id rfl
@[simp] theorem info115 : Tryd.prog.info? 115 = some Tryd.t115 := Tryd.type115
@[simp] theorem cells115 : Tryd.prog.cellsOf 115 = Tryd.t115.size := by simp [Program.cellsOf]
@[simp] theorem size115 : Tryd.t115.size = 32 := _root_.id rfl
@[simp] theorem info116 : Tryd.prog.info? 116 = some Tryd.t116 := Tryd.type116
@[simp] theorem cells116 : Tryd.prog.cellsOf 116 = Tryd.t116.size := by simp [Program.cellsOf]
@[simp] theorem size116 : Tryd.t116.size = 64 := _root_.id rfl
@[simp] theorem info117 : Tryd.prog.info? 117 = some Tryd.t117 := Tryd.type117
@[simp] theorem cells117 : Tryd.prog.cellsOf 117 = Tryd.t117.size := by simp [Program.cellsOf]
@[simp] theorem size117 : Tryd.t117.size = 4 := _root_.id rfl
@[simp] theorem info118 : Tryd.prog.info? 118 = some Tryd.t118 := Tryd.type118
@[simp] theorem cells118 : Tryd.prog.cellsOf 118 = Tryd.t118.size := by simp [Program.cellsOf]
@[simp] theorem size118 : Tryd.t118.size = 4 := _root_.id rfl
@[simp] theorem info119 : Tryd.prog.info? 119 = some Tryd.t119 := Tryd.type119
@[simp] theorem cells119 : Tryd.prog.cellsOf 119 = Tryd.t119.size := by simp [Program.cellsOf]
@[simp] theorem size119 : Tryd.t119.size = 0 := _root_.id rfl
@[simp] theorem info120 : Tryd.prog.info? 120 = some Tryd.t120 := Tryd.type120
@[simp] theorem cells120 : Tryd.prog.cellsOf 120 = Tryd.t120.size := by simp [Program.cellsOf]
@[simp] theorem size120 : Tryd.t120.size = 0 := _root_.id rfl
@[simp] theorem info121 : Tryd.prog.info? 121 = some Tryd.t121 := Tryd.type121
@[simp] theorem cells121 : Tryd.prog.cellsOf 121 = Tryd.t121.size := by simp [Program.cellsOf]
@[simp] theorem size121 : Tryd.t121.size = 0 := _root_.id rfl
@[simp] theorem info122 : Tryd.prog.info? 122 = some Tryd.t122 := Tryd.type122
@[simp] theorem cells122 : Tryd.prog.cellsOf 122 = Tryd.t122.size := by simp [Program.cellsOf]
@[simp] theorem size122 : Tryd.t122.size = 1 := _root_.id rfl
@[simp] theorem info123 : Tryd.prog.info? 123 = some Tryd.t123 := Tryd.type123
@[simp] theorem cells123 : Tryd.prog.cellsOf 123 = Tryd.t123.size := by simp [Program.cellsOf]
@[simp] theorem size123 : Tryd.t123.size = 1 := _root_.id rfl
@[simp] theorem info124 : Tryd.prog.info? 124 = some Tryd.t124 := Tryd.type124
@[simp] theorem cells124 : Tryd.prog.cellsOf 124 = Tryd.t124.size := by simp [Program.cellsOf]
@[simp] theorem size124 : Tryd.t124.size = 1 := _root_.id rfl
@[simp] theorem info125 : Tryd.prog.info? 125 = some Tryd.t125 := Tryd.type125
@[simp] theorem cells125 : Tryd.prog.cellsOf 125 = Tryd.t125.size := by simp [Program.cellsOf]
@[simp] theorem size125 : Tryd.t125.size = 1 := _root_.id rfl
@[simp] theorem info126 : Tryd.prog.info? 126 = some Tryd.t126 := Tryd.type126
@[simp] theorem cells126 : Tryd.prog.cellsOf 126 = Tryd.t126.size := by simp [Program.cellsOf]
@[simp] theorem size126 : Tryd.t126.size = 1 := _root_.id rfl
@[simp] theorem info127 : Tryd.prog.info? 127 = some Tryd.t127 := Tryd.type127
@[simp] theorem cells127 : Tryd.prog.cellsOf 127 = Tryd.t127.size := by simp [Program.cellsOf]
@[simp] theorem size127 : Tryd.t127.size = 11 := _root_.id rfl
@[simp] theorem info128 : Tryd.prog.info? 128 = some Tryd.t128 := Tryd.type128
@[simp] theorem cells128 : Tryd.prog.cellsOf 128 = Tryd.t128.size := by simp [Program.cellsOf]
@[simp] theorem size128 : Tryd.t128.size = 11 := _root_.id rfl
@[simp] theorem zero1 : Tryd.t1.zero = some (.nilFunc) := _root_.id rfl
@[simp] theorem bytes1 : Tryd.t1.bytes = 8 := _root_.id rfl
@[simp] theorem zero2 : Tryd.t2.zero = some (.int .i64 (0)) := _root_.id rfl
@[simp] theorem bytes2 : Tryd.t2.bytes = 8 := _root_.id rfl
@[simp] theorem zero3 : Tryd.t3.zero = some (.int .i64 (0)) := _root_.id rfl
@[simp] theorem bytes3 : Tryd.t3.bytes = 8 := _root_.id rfl
@[simp] theorem zero4 : Tryd.t4.zero = some (.bool false) := _root_.id rfl
@[simp] theorem bytes4 : Tryd.t4.bytes = 1 := _root_.id rfl
@[simp] theorem zero5 : Tryd.t5.zero = some (.int .u8 (0)) := _root_.id rfl
@[simp] theorem bytes5 : Tryd.t5.bytes = 1 := _root_.id rfl
@[simp] theorem zero6 : Tryd.t6.zero = some (.int .u8 (0)) := _root_.id rfl
@[simp] theorem bytes6 : Tryd.t6.bytes = 1 := _root_.id rfl
@[simp] theorem zero7 : Tryd.t7.zero = some (.agg #[.int .i64 (0), .int .i64 (0), .bool false, .int .u8 (0)]) := _root_.id rfl
@[simp] theorem bytes7 : Tryd.t7.bytes = 24 := _root_.id rfl
@[simp] theorem zero8 : Tryd.t8.zero = some (.agg #[.int .i64 (0), .int .i64 (0), .bool false, .int .u8 (0)]) := _root_.id rfl
@[simp] theorem bytes8 : Tryd.t8.bytes = 24 := _root_.id rfl
@[simp] theorem zero9 : Tryd.t9.zero = some (.string (sB [])) := _root_.id rfl
@[simp] theorem bytes9 : Tryd.t9.bytes = 16 := _root_.id rfl
@[simp] theorem zero10 : Tryd.t10.zero = some (.string (sB [])) := _root_.id rfl
@[simp] theorem bytes10 : Tryd.t10.bytes = 16 := _root_.id rfl
@[simp] theorem zero11 : Tryd.t11.zero = some (.string (sB [])) := _root_.id rfl
@[simp] theorem bytes11 : Tryd.t11.bytes = 16 := _root_.id rfl
@[simp] theorem zero12 : Tryd.t12.zero = some (.int .u64 (0)) := _root_.id rfl
@[simp] theorem bytes12 : Tryd.t12.bytes = 8 := _root_.id rfl
@[simp] theorem zero13 : Tryd.t13.zero = some (.agg #[.string (sB []), .int .u64 (0)]) := _root_.id rfl
@[simp] theorem bytes13 : Tryd.t13.bytes = 24 := _root_.id rfl
@[simp] theorem zero14 : Tryd.t14.zero = some (.agg #[.string (sB []), .int .u64 (0)]) := _root_.id rfl
@[simp] theorem bytes14 : Tryd.t14.bytes = 24 := _root_.id rfl
@[simp] theorem zero15 : Tryd.t15.zero = some (.pointer none) := _root_.id rfl
@[simp] theorem bytes15 : Tryd.t15.bytes = 8 := _root_.id rfl
@[simp] theorem zero16 : Tryd.t16.zero = some (.pointer none) := _root_.id rfl
@[simp] theorem bytes16 : Tryd.t16.bytes = 8 := _root_.id rfl
@[simp] theorem zero17 : Tryd.t17.zero = some (.pointer none) := _root_.id rfl
@[simp] theorem bytes17 : Tryd.t17.bytes = 8 := _root_.id rfl
@[simp] theorem zero18 : Tryd.t18.zero = some (.agg #[.pointer none]) := _root_.id rfl
@[simp] theorem bytes18 : Tryd.t18.bytes = 8 := _root_.id rfl
@[simp] theorem zero19 : Tryd.t19.zero = some (.agg #[.pointer none]) := _root_.id rfl
@[simp] theorem bytes19 : Tryd.t19.bytes = 8 := _root_.id rfl
@[simp] theorem zero20 : Tryd.t20.zero = some (.nilIface) := _root_.id rfl
@[simp] theorem bytes20 : Tryd.t20.bytes = 16 := _root_.id rfl
@[simp] theorem zero21 : Tryd.t21.zero = some (.int .i32 (0)) := _root_.id rfl
@[simp] theorem bytes21 : Tryd.t21.bytes = 4 := _root_.id rfl
@[simp] theorem zero22 : Tryd.t22.zero = some (.slice none 0 0) := _root_.id rfl
@[simp] theorem bytes22 : Tryd.t22.bytes = 24 := _root_.id rfl
@[simp] theorem zero23 : Tryd.t23.zero = some (.slice none 0 0) := _root_.id rfl
@[simp] theorem bytes23 : Tryd.t23.bytes = 24 := _root_.id rfl
@[simp] theorem zero24 : Tryd.t24.zero = some (.nilFunc) := _root_.id rfl
@[simp] theorem bytes24 : Tryd.t24.bytes = 8 := _root_.id rfl
@[simp] theorem zero25 : Tryd.t25.zero = some (.nilFunc) := _root_.id rfl
@[simp] theorem bytes25 : Tryd.t25.bytes = 8 := _root_.id rfl
@[simp] theorem zero26 : Tryd.t26.zero = some (.pointer none) := _root_.id rfl
@[simp] theorem bytes26 : Tryd.t26.bytes = 8 := _root_.id rfl
@[simp] theorem zero27 : Tryd.t27.zero = some (.int .i64 (0)) := _root_.id rfl
@[simp] theorem bytes27 : Tryd.t27.bytes = 8 := _root_.id rfl
@[simp] theorem zero29 : Tryd.t29.zero = some (.nilFunc) := _root_.id rfl
@[simp] theorem bytes29 : Tryd.t29.bytes = 8 := _root_.id rfl
@[simp] theorem zero30 : Tryd.t30.zero = some (.agg #[.int .i64 (0), .int .i64 (0), .int .i64 (0), .int .i64 (0)]) := _root_.id rfl
@[simp] theorem bytes30 : Tryd.t30.bytes = 32 := _root_.id rfl
@[simp] theorem zero31 : Tryd.t31.zero = some (.agg #[.int .i64 (0), .int .i64 (0), .int .i64 (0), .int .i64 (0)]) := _root_.id rfl
@[simp] theorem bytes31 : Tryd.t31.bytes = 32 := _root_.id rfl
@[simp] theorem zero32 : Tryd.t32.zero = some (.agg #[.int .i64 (0), .int .i64 (0), .int .i64 (0), .int .i64 (0), .int .i64 (0), .int .i64 (0), .int .i64 (0), .int .i64 (0), .string (sB []), .slice none 0 0]) := _root_.id rfl
@[simp] theorem bytes32 : Tryd.t32.bytes = 104 := _root_.id rfl
@[simp] theorem zero33 : Tryd.t33.zero = some (.agg #[.int .i64 (0), .int .i64 (0), .int .i64 (0), .int .i64 (0), .int .i64 (0), .int .i64 (0), .int .i64 (0), .int .i64 (0), .string (sB []), .slice none 0 0]) := _root_.id rfl
@[simp] theorem bytes33 : Tryd.t33.bytes = 104 := _root_.id rfl
@[simp] theorem zero34 : Tryd.t34.zero = some (.nilFunc) := _root_.id rfl
@[simp] theorem bytes34 : Tryd.t34.bytes = 8 := _root_.id rfl
@[simp] theorem zero35 : Tryd.t35.zero = some (.nilFunc) := _root_.id rfl
@[simp] theorem bytes35 : Tryd.t35.bytes = 8 := _root_.id rfl
@[simp] theorem zero36 : Tryd.t36.zero = some (.slice none 0 0) := _root_.id rfl
@[simp] theorem bytes36 : Tryd.t36.bytes = 24 := _root_.id rfl
@[simp] theorem zero38 : Tryd.t38.zero = some (.nilFunc) := _root_.id rfl
@[simp] theorem bytes38 : Tryd.t38.bytes = 8 := _root_.id rfl
@[simp] theorem zero39 : Tryd.t39.zero = some (.nilFunc) := _root_.id rfl
@[simp] theorem bytes39 : Tryd.t39.bytes = 8 := _root_.id rfl
@[simp] theorem zero40 : Tryd.t40.zero = some (.nilFunc) := _root_.id rfl
@[simp] theorem bytes40 : Tryd.t40.bytes = 8 := _root_.id rfl
@[simp] theorem zero41 : Tryd.t41.zero = some (.nilFunc) := _root_.id rfl
@[simp] theorem bytes41 : Tryd.t41.bytes = 8 := _root_.id rfl
@[simp] theorem zero43 : Tryd.t43.zero = some (.nilFunc) := _root_.id rfl
@[simp] theorem bytes43 : Tryd.t43.bytes = 8 := _root_.id rfl
@[simp] theorem zero44 : Tryd.t44.zero = some (.nilFunc) := _root_.id rfl
@[simp] theorem bytes44 : Tryd.t44.bytes = 8 := _root_.id rfl
@[simp] theorem zero45 : Tryd.t45.zero = some (.agg #[.int .i64 (0), .int .i64 (0), .int .i64 (0), .int .i64 (0), .string (sB [])]) := _root_.id rfl
@[simp] theorem bytes45 : Tryd.t45.bytes = 48 := _root_.id rfl
@[simp] theorem zero46 : Tryd.t46.zero = some (.agg #[.int .i64 (0), .int .i64 (0), .int .i64 (0), .int .i64 (0), .string (sB [])]) := _root_.id rfl
@[simp] theorem bytes46 : Tryd.t46.bytes = 48 := _root_.id rfl
@[simp] theorem zero47 : Tryd.t47.zero = some (.nilFunc) := _root_.id rfl
@[simp] theorem bytes47 : Tryd.t47.bytes = 8 := _root_.id rfl
@[simp] theorem zero48 : Tryd.t48.zero = some (.nilFunc) := _root_.id rfl
@[simp] theorem bytes48 : Tryd.t48.bytes = 8 := _root_.id rfl
@[simp] theorem zero49 : Tryd.t49.zero = some (.nilFunc) := _root_.id rfl
@[simp] theorem bytes49 : Tryd.t49.bytes = 8 := _root_.id rfl
@[simp] theorem zero50 : Tryd.t50.zero = some (.nilFunc) := _root_.id rfl
@[simp] theorem bytes50 : Tryd.t50.bytes = 8 := _root_.id rfl
@[simp] theorem zero51 : Tryd.t51.zero = some (.agg #[.int .i64 (0), .int .i64 (0), .int .i64 (0), .int .i64 (0)]) := _root_.id rfl
@[simp] theorem bytes51 : Tryd.t51.bytes = 32 := _root_.id rfl
@[simp] theorem zero52 : Tryd.t52.zero = some (.agg #[.int .i64 (0), .int .i64 (0), .int .i64 (0), .int .i64 (0)]) := _root_.id rfl
@[simp] theorem bytes52 : Tryd.t52.bytes = 32 := _root_.id rfl
@[simp] theorem zero53 : Tryd.t53.zero = some (.agg #[.int .i64 (0), .int .i64 (0), .int .i64 (0), .int .i64 (0), .int .i64 (0), .int .i64 (0), .int .i64 (0), .int .i64 (0), .int .i64 (0), .int .i64 (0), .int .i64 (0), .int .i64 (0), .int .i64 (0), .int .i64 (0), .int .i64 (0), .int .i64 (0), .int .i64 (0), .int .i64 (0), .int .i64 (0), .int .i64 (0), .int .i64 (0), .int .i64 (0), .int .i64 (0), .int .i64 (0), .int .i64 (0), .int .i64 (0), .int .i64 (0), .int .i64 (0), .int .i64 (0), .int .i64 (0), .int .i64 (0), .int .i64 (0), .int .i64 (0), .int .i64 (0), .int .i64 (0), .int .i64 (0), .int .i64 (0), .int .i64 (0), .int .i64 (0), .int .i64 (0), .int .i64 (0), .int .i64 (0), .int .i64 (0), .int .i64 (0), .int .i64 (0), .int .i64 (0), .int .i64 (0), .int .i64 (0), .int .i64 (0), .int .i64 (0), .int .i64 (0), .int .i64 (0), .int .i64 (0), .int .i64 (0), .int .i64 (0), .int .i64 (0), .int .i64 (0), .int .i64 (0), .int .i64 (0), .int .i64 (0), .int .i64 (0), .int .i64 (0), .int .i64 (0), .int .i64 (0)]) := _root_.id rfl
@[simp] theorem bytes53 : Tryd.t53.bytes = 512 := _root_.id rfl
@[simp] theorem zero54 : Tryd.t54.zero = some (.agg #[.int .i64 (0), .int .i64 (0), .int .i64 (0), .int .i64 (0), .int .i64 (0), .int .i64 (0), .int .i64 (0), .int .i64 (0), .int .i64 (0), .int .i64 (0), .int .i64 (0), .int .i64 (0), .int .i64 (0), .int .i64 (0), .int .i64 (0), .int .i64 (0), .int .i64 (0), .int .i64 (0), .int .i64 (0), .int .i64 (0), .int .i64 (0), .int .i64 (0), .int .i64 (0), .int .i64 (0), .int .i64 (0), .int .i64 (0), .int .i64 (0), .int .i64 (0), .int .i64 (0), .int .i64 (0), .int .i64 (0), .int .i64 (0), .int .i64 (0), .int .i64 (0), .int .i64 (0), .int .i64 (0), .int .i64 (0), .int .i64 (0), .int .i64 (0), .int .i64 (0), .int .i64 (0), .int .i64 (0), .int .i64 (0), .int .i64 (0), .int .i64 (0), .int .i64 (0), .int .i64 (0), .int .i64 (0), .int .i64 (0), .int .i64 (0), .int .i64 (0), .int .i64 (0), .int .i64 (0), .int .i64 (0), .int .i64 (0), .int .i64 (0), .int .i64 (0), .int .i64 (0), .int .i64 (0), .int .i64 (0), .int .i64 (0), .int .i64 (0), .int .i64 (0), .int .i64 (0), .int .i64 (0), .int .i64 (0), .int .i64 (0), .int .i64 (0), .int .i64 (0), .int .i64 (0), .int .i64 (0), .int .i64 (0), .int .i64 (0), .int .i64 (0), .int .i64 (0), .int .i64 (0), .int .i64 (0), .int .i64 (0), .int .i64 (0), .int .i64 (0), .int .i64 (0), .int .i64 (0), .int .i64 (0), .int .i64 (0), .int .i64 (0), .int .i64 (0), .int .i64 (0), .int .i64 (0), .int .i64 (0), .int .i64 (0), .int .i64 (0), .int .i64 (0), .int .i64 (0), .int .i64 (0), .int .i64 (0), .int .i64 (0), .int .i64 (0), .int .i64 (0), .int .i64 (0), .int .i64 (0), .int .i64 (0), .int .i64 (0), .int .i64 (0), .int .i64 (0), .int .i64 (0), .int .i64 (0), .int .i64 (0), .int .i64 (0), .int .i64 (0), .int .i64 (0), .int .i64 (0), .int .i64 (0), .int .i64 (0), .int .i64 (0), .int .i64 (0), .int .i64 (0), .int .i64 (0), .int .i64 (0), .int .i64 (0), .int .i64 (0), .int .i64 (0), .int .i64 (0), .int .i64 (0), .int .i64 (0), .int .i64 (0), .int .i64 (0), .int .i64 (0), .int .i64 (0), .int .i64 (0), .int .i64 (0), .int .i64 (0), .int .i64 (0), .int .i64 (0), .int .i64 (0), .int .i64 (0), .int .i64 (0), .int .i64 (0), .int .i64 (0), .int .i64 (0), .int .i64 (0), .int .i64 (0), .int .i64 (0), .int .i64 (0), .int .i64 (0), .int .i64 (0), .int .i64 (0), .int .i64 (0), .int .i64 (0), .int .i64 (0), .int .i64 (0), .int .i64 (0), .int .i64 (0), .int .i64 (0), .int .i64 (0), .int .i64 (0), .int .i64 (0), .int .i64 (0), .int .i64 (0), .int .i64 (0), .int .i64 (0), .int .i64 (0), .int .i64 (0), .int .i64 (0), .int .i64 (0), .int .i64 (0), .int .i64 (0), .int .i64 (0), .int .i64 (0), .int .i64 (0), .int .i64 (0), .int .i64 (0), .int .i64 (0), .int .i64 (0), .int .i64 (0), .int .i64 (0), .int .i64 (0), .int .i64 (0), .int .i64 (0), .int .i64 (0), .int .i64 (0), .int .i64 (0), .int .i64 (0), .int .i64 (0), .int .i64 (0), .int .i64 (0), .int .i64 (0), .int .i64 (0), .int .i64 (0), .int .i64 (0), .int .i64 (0), .int .i64 (0), .int .i64 (0), .int .i64 (0), .int .i64 (0), .int .i64 (0), .int .i64 (0), .int .i64 (0), .int .i64 (0), .int .i64 (0), .int .i64 (0), .int .i64 (0), .int .i64 (0), .int .i64 (0), .int .i64 (0), .int .i64 (0), .int .i64 (0), .int .i64 (0), .int .i64 (0), .int .i64 (0), .int .i64 (0), .int .i64 (0), .int .i64 (0), .int .i64 (0), .int .i64 (0), .int .i64 (0), .int .i64 (0), .int .i64 (0), .int .i64 (0), .int .i64 (0), .int .i64 (0), .int .i64 (0), .int .i64 (0), .int .i64 (0), .int .i64 (0), .int .i64 (0), .int .i64 (0), .int .i64 (0), .int .i64 (0), .int .i64 (0), .int .i64 (0), .int .i64 (0), .int .i64 (0), .int .i64 (0), .int .i64 (0), .int .i64 (0), .int .i64 (0), .int .i64 (0), .int .i64 (0), .int .i64 (0), .int .i64 (0), .int .i64 (0), .int .i64 (0), .int .i64 (0), .int .i64 (0), .int .i64 (0), .int .i64 (0), .int .i64 (0), .int .i64 (0), .int .i64 (0), .int .i64 (0), .int .i64 (0), .int .i64 (0), .int .i64 (0), .int .i64 (0), .int .i64 (0), .int .i64 (0), .int .i64 (0), .int .i64 (0), .int .i64 (0), .int .i64 (0), .int .i64 (0), .int .i64 (0), .int .i64 (0), .int .i64 (0), .int .i64 (0), .int .i64 (0), .int .i64 (0), .int .i64 (0), .int .i64 (0), .int .i64 (0), .int .i64 (0), .int .i64 (0), .int .i64 (0), .int .i64 (0), .int .i64 (0), .int .i64 (0), .int .i64 (0), .int .i64 (0), .int .i64 (0), .int .i64 (0), .int .i64 (0), .int .i64 (0), .int .i64 (0), .int .i64 (0), .int .i64 (0), .int .i64 (0), .int .i64 (0), .int .i64 (0), .int .i64 (0), .int .i64 (0), .int .i64 (0), .int .i64 (0), .int .i64 (0), .int .i64 (0), .int .i64 (0), .int .i64 (0), .int .i64 (0), .int .i64 (0), .int .i64 (0), .int .i64 (0), .int .i64 (0), .int .i64 (0), .int .i64 (0), .int .i64 (0), .int .i64 (0), .int .i64 (0), .int .i64 (0), .int .i64 (0), .int .i64 (0), .int .i64 (0), .int .i64 (0), .int .i64 (0), .int .i64 (0), .int .i64 (0), .int .i64 (0), .int .i64 (0), .int .i64 (0), .int .i64 (0), .int .i64 (0), .int .i64 (0), .int .i64 (0), .int .i64 (0), .int .i64 (0), .int .i64 (0), .int .i64 (0), .int .i64 (0), .int .i64 (0), .int .i64 (0), .int .i64 (0), .int .i64 (0), .int .i64 (0), .int .i64 (0), .int .i64 (0), .int .i64 (0), .int .i64 (0), .int .i64 (0), .int .i64 (0), .int .i64 (0), .int .i64 (0), .int .i64 (0), .int .i64 (0), .int .i64 (0), .int .i64 (0), .int .i64 (0), .int .i64 (0), .int .i64 (0), .int .i64 (0), .int .i64 (0), .int .i64 (0), .int .i64 (0), .int .i64 (0), .int .i64 (0), .int .i64 (0), .int .i64 (0), .int .i64 (0), .int .i64 (0), .int .i64 (0), .int .i64 (0), .int .i64 (0), .int .i64 (0), .int .i64 (0), .int .i64 (0), .int .i64 (0), .int .i64 (0), .int .i64 (0), .int .i64 (0), .int .i64 (0), .int .i64 (0), .int .i64 (0), .int .i64 (0), .int .i64 (0), .int .i64 (0), .int .i64 (0), .int .i64 (0), .int .i64 (0), .int .i64 (0), .int .i64 (0), .int .i64 (0), .int .i64 (0), .int .i64 (0), .int .i64 (0), .int .i64 (0), .int .i64 (0), .int .i64 (0), .int .i64 (0), .int .i64 (0), .int .i64 (0), .int .i64 (0), .int .i64 (0), .int .i64 (0), .int .i64 (0), .int .i64 (0), .int .i64 (0), .int .i64 (0), .int .i64 (0), .int .i64 (0), .int .i64 (0), .int .i64 (0), .int .i64 (0), .int .i64 (0), .int .i64 (0), .int .i64 (0), .int .i64 (0), .int .i64 (0), .int .i64 (0), .int .i64 (0), .int .i64 (0), .int .i64 (0), .int .i64 (0), .int .i64 (0), .int .i64 (0), .int .i64 (0), .int .i64 (0), .int .i64 (0), .int .i64 (0), .int .i64 (0), .int .i64 (0), .int .i64 (0), .int .i64 (0), .int .i64 (0), .int .i64 (0), .int .i64 (0), .int .i64 (0), .int .i64 (0), .int .i64 (0), .int .i64 (0), .int .i64 (0), .int .i64 (0), .int .i64 (0), .int .i64 (0), .int .i64 (0), .int .i64 (0), .int .i64 (0), .int .i64 (0), .int .i64 (0), .int .i64 (0), .int .i64 (0), .int .i64 (0), .int .i64 (0), .int .i64 (0), .int .i64 (0), .int .i64 (0), .int .i64 (0), .int .i64 (0), .int .i64 (0), .int .i64 (0), .int .i64 (0), .int .i64 (0), .int .i64 (0), .int .i64 (0), .int .i64 (0), .int .i64 (0), .int .i64 (0), .int .i64 (0), .int .i64 (0), .int .i64 (0), .int .i64 (0), .int .i64 (0), .int .i64 (0), .int .i64 (0), .int .i64 (0), .int .i64 (0), .int .i64 (0), .int .i64 (0), .int .i64 (0), .int .i64 (0), .int .i64 (0), .int .i64 (0), .int .i64 (0), .int .i64 (0), .int .i64 (0), .int .i64 (0), .int .i64 (0), .int .i64 (0), .int .i64 (0), .int .i64 (0), .int .i64 (0), .int .i64 (0), .int .i64 (0), .int .i64 (0), .int .i64 (0), .int .i64 (0), .int .i64 (0), .int .i64 (0), .int .i64 (0), .int .i64 (0), .int .i64 (0), .int .i64 (0), .int .i64 (0), .int .i64 (0), .int .i64 (0), .int .i64 (0), .int .i64 (0), .int .i64 (0), .int .i64 (0), .int .i64 (0), .int .i64 (0), .int .i64 (0), .int .i64 (0), .int .i64 (0), .int .i64 (0), .int .i64 (0), .int .i64 (0), .int .i64 (0), .int .i64 (0), .int .i64 (0), .int .i64 (0), .int .i64 (0), .int .i64 (0), .int .i64 (0), .int .i64 (0), .int .i64 (0), .int .i64 (0), .int .i64 (0), .int .i64 (0), .int .i64 (0), .int .i64 (0), .int .i64 (0), .int .i64 (0), .int .i64 (0), .int .i64 (0), .int .i64 (0), .int .i64 (0), .int .i64 (0), .int .i64 (0), .int .i64 (0), .int .i64 (0), .int .i64 (0), .int .i64 (0), .int .i64 (0), .int .i64 (0), .int .i64 (0), .int .i64 (0), .int .i64 (0), .int .i64 (0), .int .i64 (0), .int .i64 (0), .int .i64 (0), .int .i64 (0), .int .i64 (0), .int .i64 (0), .int .i64 (0), .int .i64 (0), .int .i64 (0), .int .i64 (0), .int .i64 (0), .int .i64 (0), .int .i64 (0), .int .i64 (0), .int .i64 (0), .int .i64 (0), .int .i64 (0), .int .i64 (0), .int .i64 (0), .int .i64 (0), .int .i64 (0), .int .i64 (0), .int .i64 (0), .int .i64 (0), .int .i64 (0), .int .i64 (0), .int .i64 (0), .int .i64 (0), .int .i64 (0), .int .i64 (0), .int .i64 (0), .int .i64 (0), .int .i64 (0), .int .i64 (0), .int .i64 (0), .int .i64 (0), .int .i64 (0), .int .i64 (0), .int .i64 (0), .int .i64 (0), .int .i64 (0), .int .i64 (0), .int .i64 (0), .int .i64 (0), .int .i64 (0), .int .i64 (0), .int .i64 (0), .int .i64 (0), .int .i64 (0), .int .i64 (0), .int .i64 (0), .int .i64 (0), .int .i64 (0), .int .i64 (0), .int .i64 (0), .int .i64 (0), .int .i64 (0), .int .i64 (0), .int .i64 (0), .int .i64 (0), .int .i64 (0), .int .i64 (0), .int .i64 (0), .int .i64 (0), .int .i64 (0), .int .i64 (0), .int .i64 (0), .int .i64 (0), .int .i64 (0), .int .i64 (0), .int .i64 (0), .int .i64 (0), .int .i64 (0), .int .i64 (0), .int .i64 (0), .int .i64 (0), .int .i64 (0), .int .i64 (0), .int .i64 (0), .int .i64 (0), .int .i64 (0), .int .i64 (0), .int .i64 (0), .int .i64 (0), .int .i64 (0), .int .i64 (0), .int .i64 (0), .int .i64 (0), .int .i64 (0), .int .i64 (0), .int .i64 (0), .int .i64 (0), .int .i64 (0), .int .i64 (0), .int .i64 (0), .int .i64 (0), .int .i64 (0), .int .i64 (0), .int .i64 (0), .int .i64 (0), .int .i64 (0), .int .i64 (0), .int .i64 (0), .int .i64 (0), .int .i64 (0), .int .i64 (0), .int .i64 (0), .int .i64 (0), .int .i64 (0), .int .i64 (0), .int .i64 (0), .int .i64 (0), .int .i64 (0), .int .i64 (0), .int .i64 (0), .int .i64 (0), .int .i64 (0), .int .i64 (0), .int .i64 (0), .int .i64 (0), .int .i64 (0), .int .i64 (0), .int .i64 (0), .int .i64 (0), .int .i64 (0), .int .i64 (0), .int .i64 (0), .int .i64 (0), .int .i64 (0), .int .i64 (0), .int .i64 (0), .int .i64 (0), .int .i64 (0), .int .i64 (0), .int .i64 (0), .int .i64 (0), .int .i64 (0), .int .i64 (0), .int .i64 (0), .int .i64 (0), .int .i64 (0), .int .i64 (0), .int .i64 (0), .int .i64 (0), .int .i64 (0), .int .i64 (0), .int .i64 (0), .int .i64 (0), .int .i64 (0), .int .i64 (0), .int .i64 (0), .int .i64 (0), .int .i64 (0), .int .i64 (0), .int .i64 (0), .int .i64 (0), .int .i64 (0), .int .i64 (0), .int .i64 (0), .int .i64 (0), .int .i64 (0), .int .i64 (0), .int .i64 (0), .int .i64 (0), .int .i64 (0), .int .i64 (0), .int .i64 (0), .int .i64 (0), .int .i64 (0), .int .i64 (0), .int .i64 (0), .int .i64 (0), .int .i64 (0), .int .i64 (0), .int .i64 (0), .int .i64 (0), .int .i64 (0), .int .i64 (0), .int .i64 (0), .int .i64 (0), .int .i64 (0), .int .i64 (0), .int .i64 (0), .int .i64 (0), .int .i64 (0), .int .i64 (0), .int .i64 (0), .int .i64 (0), .int .i64 (0), .int .i64 (0), .int .i64 (0), .int .i64 (0), .int .i64 (0), .int .i64 (0), .int .i64 (0), .int .i64 (0), .int .i64 (0), .int .i64 (0), .int .i64 (0), .int .i64 (0), .int .i64 (0), .int .i64 (0), .int .i64 (0), .int .i64 (0), .int .i64 (0), .int .i64 (0), .int .i64 (0), .int .i64 (0), .int .i64 (0), .int .i64 (0), .int .i64 (0), .int .i64 (0), .int .i64 (0), .int .i64 (0), .int .i64 (0), .int .i64 (0), .int .i64 (0), .int .i64 (0), .int .i64 (0), .int .i64 (0), .int .i64 (0), .int .i64 (0), .int .i64 (0), .int .i64 (0), .int .i64 (0), .int .i64 (0), .int .i64 (0), .int .i64 (0), .int .i64 (0), .int .i64 (0), .int .i64 (0), .int .i64 (0), .int .i64 (0), .int .i64 (0), .int .i64 (0), .int .i64 (0), .int .i64 (0), .int .i64 (0), .int .i64 (0), .int .i64 (0), .int .i64 (0), .int .i64 (0), .int .i64 (0), .int .i64 (0), .int .i64 (0), .int .i64 (0), .int .i64 (0), .int .i64 (0), .int .i64 (0), .int .i64 (0), .int .i64 (0), .int .i64 (0), .int .i64 (0), .int .i64 (0), .int .i64 (0), .int .i64 (0), .int .i64 (0), .int .i64 (0), .int .i64 (0), .int .i64 (0), .int .i64 (0), .int .i64 (0), .int .i64 (0), .int .i64 (0), .int .i64 (0), .int .i64 (0), .int .i64 (0), .int .i64 (0), .int .i64 (0), .int .i64 (0), .int .i64 (0), .int .i64 (0), .int .i64 (0), .int .i64 (0), .int .i64 (0), .int .i64 (0), .int .i64 (0), .int .i64 (0), .int .i64 (0), .int .i64 (0), .int .i64 (0), .int .i64 (0), .int .i64 (0), .int .i64 (0), .int .i64 (0), .int .i64 (0), .int .i64 (0), .int .i64 (0), .int .i64 (0), .int .i64 (0), .int .i64 (0), .int .i64 (0), .int .i64 (0), .int .i64 (0), .int .i64 (0), .int .i64 (0), .int .i64 (0), .int .i64 (0), .int .i64 (0), .int .i64 (0), .int .i64 (0), .int .i64 (0), .int .i64 (0), .int .i64 (0), .int .i64 (0), .int .i64 (0), .int .i64 (0), .int .i64 (0), .int .i64 (0), .int .i64 (0), .int .i64 (0), .int .i64 (0), .int .i64 (0), .int .i64 (0), .int .i64 (0), .int .i64 (0), .int .i64 (0), .int .i64 (0), .int .i64 (0), .int .i64 (0), .int .i64 (0), .int .i64 (0), .int .i64 (0), .int .i64 (0), .int .i64 (0), .int .i64 (0), .int .i64 (0), .int .i64 (0), .int .i64 (0), .int .i64 (0), .int .i64 (0), .int .i64 (0), .int .i64 (0), .int .i64 (0), .int .i64 (0), .int .i64 (0), .int .i64 (0), .int .i64 (0), .int .i64 (0), .int .i64 (0), .int .i64 (0), .int .i64 (0), .int .i64 (0), .int .i64 (0), .int .i64 (0), .int .i64 (0), .int .i64 (0), .int .i64 (0), .int .i64 (0), .int .i64 (0), .int .i64 (0), .int .i64 (0), .int .i64 (0), .int .i64 (0), .int .i64 (0), .int .i64 (0), .int .i64 (0), .int .i64 (0), .int .i64 (0), .int .i64 (0), .int .i64 (0), .int .i64 (0), .int .i64 (0), .int .i64 (0), .int .i64 (0), .int .i64 (0), .int .i64 (0), .int .i64 (0), .int .i64 (0), .int .i64 (0), .int .i64 (0), .int .i64 (0), .int .i64 (0), .int .i64 (0), .int .i64 (0), .int .i64 (0), .int .i64 (0), .int .i64 (0), .int .i64 (0), .int .i64 (0), .int .i64 (0), .int .i64 (0), .int .i64 (0), .int .i64 (0), .int .i64 (0), .int .i64 (0), .int .i64 (0), .int .i64 (0), .int .i64 (0), .int .i64 (0), .int .i64 (0), .int .i64 (0), .int .i64 (0), .int .i64 (0), .int .i64 (0), .int .i64 (0), .int .i64 (0), .int .i64 (0), .int .i64 (0), .int .i64 (0), .int .i64 (0), .int .i64 (0), .int .i64 (0), .int .i64 (0), .int .i64 (0), .int .i64 (0), .int .i64 (0), .int .i64 (0), .int .i64 (0), .int .i64 (0), .int .i64 (0), .int .i64 (0), .int .i64 (0), .int .i64 (0), .int .i64 (0), .int .i64 (0), .int .i64 (0), .int .i64 (0), .int .i64 (0), .int .i64 (0), .int .i64 (0), .int .i64 (0), .int .i64 (0), .int .i64 (0), .int .i64 (0), .int .i64 (0), .int .i64 (0), .int .i64 (0), .int .i64 (0), .int .i64 (0), .int .i64 (0), .int .i64 (0), .int .i64 (0), .int .i64 (0), .int .i64 (0), .int .i64 (0), .int .i64 (0), .int .i64 (0), .int .i64 (0), .int .i64 (0), .int .i64 (0), .int .i64 (0), .int .i64 (0), .int .i64 (0), .int .i64 (0), .int .i64 (0), .int .i64 (0), .int .i64 (0), .int .i64 (0), .int .i64 (0), .int .i64 (0), .int .i64 (0), .int .i64 (0), .int .i64 (0), .int .i64 (0), .int .i64 (0), .int .i64 (0), .int .i64 (0), .int .i64 (0), .int .i64 (0), .int .i64 (0), .int .i64 (0), .int .i64 (0), .int .i64 (0), .int .i64 (0), .int .i64 (0), .int .i64 (0), .int .i64 (0), .int .i64 (0), .int .i64 (0), .int .i64 (0), .int .i64 (0), .int .i64 (0), .int .i64 (0), .int .i64 (0), .int .i64 (0), .int .i64 (0), .int .i64 (0), .int .i64 (0), .int .i64 (0), .int .i64 (0), .int .i64 (0), .int .i64 (0), .int .i64 (0), .int .i64 (0), .int .i64 (0), .int .i64 (0), .int .i64 (0), .int .i64 (0)]) := _root_.id rfl
@[simp] theorem bytes54 : Tryd.t54.bytes = 8192 := _root_.id rfl
@[simp] theorem zero55 : Tryd.t55.zero = some (.agg #[.int .i64 (0), .int .i64 (0), .int .i64 (0), .int .i64 (0), .int .i64 (0), .int .i64 (0), .int .i64 (0), .int .i64 (0), .int .i64 (0), .int .i64 (0), .int .i64 (0), .int .i64 (0), .int .i64 (0), .int .i64 (0), .int .i64 (0), .int .i64 (0)]) := _root_.id rfl
@[simp] theorem bytes55 : Tryd.t55.bytes = 128 := _root_.id rfl
@[simp] theorem zero56 : Tryd.t56.zero = some (.agg #[.bool false, .bool false, .bool false, .bool false, .bool false, .bool false, .bool false, .bool false, .bool false, .bool false, .bool false, .bool false, .bool false, .bool false, .bool false, .bool false]) := _root_.id rfl
@[simp] theorem bytes56 : Tryd.t56.bytes = 16 := _root_.id rfl
@[simp] theorem zero57 : Tryd.t57.zero = some (.slice none 0 0) := _root_.id rfl
@[simp] theorem bytes57 : Tryd.t57.bytes = 24 := _root_.id rfl
@[simp] theorem zero58 : Tryd.t58.zero = some (.agg #[.int .i64 (0), .int .i64 (0), .int .i64 (0), .int .i64 (0), .int .i64 (0), .slice none 0 0, .int .i64 (0), .int .i64 (0), .int .i64 (0), .int .i64 (0), .int .i64 (0), .int .i64 (0), .int .i64 (0), .int .i64 (0), .int .i64 (0), .int .i64 (0), .int .i64 (0), .int .i64 (0), .int .i64 (0), .int .i64 (0), .int .i64 (0), .int .i64 (0), .int .i64 (0), .int .i64 (0), .int .i64 (0), .int .i64 (0), .int .i64 (0), .int .i64 (0), .int .i64 (0), .int .i64 (0), .int .i64 (0), .int .i64 (0), .int .i64 (0), .int .i64 (0), .int .i64 (0), .int .i64 (0), .int .i64 (0), .int .i64 (0), .int .i64 (0), .int .i64 (0), .int .i64 (0), .int .i64 (0), .int .i64 (0), .int .i64 (0), .int .i64 (0), .int .i64 (0), .int .i64 (0), .int .i64 (0), .int .i64 (0), .int .i64 (0), .int .i64 (0), .int .i64 (0), .int .i64 (0), .int .i64 (0), .int .i64 (0), .int .i64 (0), .int .i64 (0), .int .i64 (0), .int .i64 (0), .int .i64 (0), .int .i64 (0), .int .i64 (0), .int .i64 (0), .int .i64 (0), .int .i64 (0), .int .i64 (0), .int .i64 (0), .int .i64 (0), .int .i64 (0), .int .i64 (0), .int .i64 (0), .int .i64 (0), .int .i64 (0), .int .i64 (0), .int .i64 (0), .int .i64 (0), .int .i64 (0), .int .i64 (0), .int .i64 (0), .int .i64 (0), .int .i64 (0), .int .i64 (0), .int .i64 (0), .int .i64 (0), .int .i64 (0), .int .i64 (0), .int .i64 (0), .int .i64 (0), .int .i64 (0), .int .i64 (0), .int .i64 (0), .int .i64 (0), .int .i64 (0), .int .i64 (0), .int .i64 (0), .int .i64 (0), .int .i64 (0), .int .i64 (0), .int .i64 (0), .int .i64 (0), .int .i64 (0), .int .i64 (0), .int .i64 (0), .int .i64 (0), .int .i64 (0), .int .i64 (0), .int .i64 (0), .int .i64 (0), .int .i64 (0), .int .i64 (0), .int .i64 (0), .int .i64 (0), .int .i64 (0), .int .i64 (0), .int .i64 (0), .int .i64 (0), .int .i64 (0), .int .i64 (0), .int .i64 (0), .int .i64 (0), .int .i64 (0), .int .i64 (0), .int .i64 (0), .int .i64 (0), .int .i64 (0), .int .i64 (0), .int .i64 (0), .int .i64 (0), .int .i64 (0), .int .i64 (0), .int .i64 (0), .int .i64 (0), .int .i64 (0), .int .i64 (0), .int .i64 (0), .int .i64 (0), .int .i64 (0), .int .i64 (0), .int .i64 (0), .int .i64 (0), .int .i64 (0), .int .i64 (0), .int .i64 (0), .int .i64 (0), .int .i64 (0), .int .i64 (0), .int .i64 (0), .int .i64 (0), .int .i64 (0), .int .i64 (0), .int .i64 (0), .int .i64 (0), .int .i64 (0), .int .i64 (0), .int .i64 (0), .int .i64 (0), .int .i64 (0), .int .i64 (0), .int .i64 (0), .int .i64 (0), .int .i64 (0), .int .i64 (0), .int .i64 (0), .int .i64 (0), .int .i64 (0), .int .i64 (0), .int .i64 (0), .int .i64 (0), .int .i64 (0), .int .i64 (0), .int .i64 (0), .int .i64 (0), .int .i64 (0), .int .i64 (0), .int .i64 (0), .int .i64 (0), .int .i64 (0), .int .i64 (0), .int .i64 (0), .int .i64 (0), .int .i64 (0), .int .i64 (0), .int .i64 (0), .int .i64 (0), .int .i64 (0), .int .i64 (0), .int .i64 (0), .int .i64 (0), .int .i64 (0), .int .i64 (0), .int .i64 (0), .int .i64 (0), .int .i64 (0), .int .i64 (0), .int .i64 (0), .int .i64 (0), .int .i64 (0), .int .i64 (0), .int .i64 (0), .int .i64 (0), .int .i64 (0), .int .i64 (0), .int .i64 (0), .int .i64 (0), .int .i64 (0), .int .i64 (0), .int .i64 (0), .int .i64 (0), .int .i64 (0), .int .i64 (0), .int .i64 (0), .int .i64 (0), .int .i64 (0), .int .i64 (0), .int .i64 (0), .int .i64 (0), .int .i64 (0), .int .i64 (0), .int .i64 (0), .int .i64 (0), .int .i64 (0), .int .i64 (0), .int .i64 (0), .int .i64 (0), .int .i64 (0), .int .i64 (0), .int .i64 (0), .int .i64 (0), .int .i64 (0), .int .i64 (0), .int .i64 (0), .int .i64 (0), .int .i64 (0), .int .i64 (0), .int .i64 (0), .int .i64 (0), .int .i64 (0), .int .i64 (0), .int .i64 (0), .int .i64 (0), .int .i64 (0), .int .i64 (0), .int .i64 (0), .int .i64 (0), .int .i64 (0), .int .i64 (0), .int .i64 (0), .int .i64 (0), .int .i64 (0), .int .i64 (0), .int .i64 (0), .int .i64 (0), .int .i64 (0), .int .i64 (0), .int .i64 (0), .int .i64 (0), .int .i64 (0), .int .i64 (0), .int .i64 (0), .int .i64 (0), .int .i64 (0), .int .i64 (0), .int .i64 (0), .int .i64 (0), .int .i64 (0), .int .i64 (0), .int .i64 (0), .int .i64 (0), .int .i64 (0), .int .i64 (0), .int .i64 (0), .int .i64 (0), .int .i64 (0), .int .i64 (0), .int .i64 (0), .int .i64 (0), .int .i64 (0), .int .i64 (0), .int .i64 (0), .int .i64 (0), .int .i64 (0), .int .i64 (0), .int .i64 (0), .int .i64 (0), .int .i64 (0), .int .i64 (0), .int .i64 (0), .int .i64 (0), .int .i64 (0), .int .i64 (0), .int .i64 (0), .int .i64 (0), .int .i64 (0), .int .i64 (0), .int .i64 (0), .int .i64 (0), .int .i64 (0), .int .i64 (0), .int .i64 (0), .int .i64 (0), .int .i64 (0), .int .i64 (0), .int .i64 (0), .int .i64 (0), .int .i64 (0), .int .i64 (0), .int .i64 (0), .int .i64 (0), .int .i64 (0), .int .i64 (0), .int .i64 (0), .int .i64 (0), .int .i64 (0), .int .i64 (0), .int .i64 (0), .int .i64 (0), .int .i64 (0), .int .i64 (0), .int .i64 (0), .int .i64 (0), .int .i64 (0), .int .i64 (0), .int .i64 (0), .int .i64 (0), .int .i64 (0), .int .i64 (0), .int .i64 (0), .int .i64 (0), .int .i64 (0), .int .i64 (0), .int .i64 (0), .int .i64 (0), .int .i64 (0), .int .i64 (0), .int .i64 (0), .int .i64 (0), .int .i64 (0), .int .i64 (0), .int .i64 (0), .int .i64 (0), .int .i64 (0), .int .i64 (0), .int .i64 (0), .int .i64 (0), .int .i64 (0), .int .i64 (0), .int .i64 (0), .int .i64 (0), .int .i64 (0), .int .i64 (0), .int .i64 (0), .int .i64 (0), .int .i64 (0), .int .i64 (0), .int .i64 (0), .int .i64 (0), .int .i64 (0), .int .i64 (0), .int .i64 (0), .int .i64 (0), .int .i64 (0), .int .i64 (0), .int .i64 (0), .int .i64 (0), .int .i64 (0), .int .i64 (0), .int .i64 (0), .int .i64 (0), .int .i64 (0), .int .i64 (0), .int .i64 (0), .int .i64 (0), .int .i64 (0), .int .i64 (0), .int .i64 (0), .int .i64 (0), .int .i64 (0), .int .i64 (0), .int .i64 (0), .int .i64 (0), .int .i64 (0), .int .i64 (0), .int .i64 (0), .int .i64 (0), .int .i64 (0), .int .i64 (0), .int .i64 (0), .int .i64 (0), .int .i64 (0), .int .i64 (0), .int .i64 (0), .int .i64 (0), .int .i64 (0), .int .i64 (0), .int .i64 (0), .int .i64 (0), .int .i64 (0), .int .i64 (0), .int .i64 (0), .int .i64 (0), .int .i64 (0), .int .i64 (0), .int .i64 (0), .int .i64 (0), .int .i64 (0), .int .i64 (0), .int .i64 (0), .int .i64 (0), .int .i64 (0), .int .i64 (0), .int .i64 (0), .int .i64 (0), .int .i64 (0), .int .i64 (0), .int .i64 (0), .int .i64 (0), .int .i64 (0), .int .i64 (0), .int .i64 (0), .int .i64 (0), .int .i64 (0), .int .i64 (0), .int .i64 (0), .int .i64 (0), .int .i64 (0), .int .i64 (0), .int .i64 (0), .int .i64 (0), .int .i64 (0), .int .i64 (0), .int .i64 (0), .int .i64 (0), .int .i64 (0), .int .i64 (0), .int .i64 (0), .int .i64 (0), .int .i64 (0), .int .i64 (0), .int .i64 (0), .int .i64 (0), .int .i64 (0), .int .i64 (0), .int .i64 (0), .int .i64 (0), .int .i64 (0), .int .i64 (0), .int .i64 (0), .int .i64 (0), .int .i64 (0), .int .i64 (0), .int .i64 (0), .int .i64 (0), .int .i64 (0), .int .i64 (0), .int .i64 (0), .int .i64 (0), .int .i64 (0), .int .i64 (0), .int .i64 (0), .int .i64 (0), .int .i64 (0), .int .i64 (0), .int .i64 (0), .int .i64 (0), .int .i64 (0), .int .i64 (0), .int .i64 (0), .int .i64 (0), .int .i64 (0), .int .i64 (0), .int .i64 (0), .int .i64 (0), .int .i64 (0), .int .i64 (0), .int .i64 (0), .int .i64 (0), .int .i64 (0), .int .i64 (0), .int .i64 (0), .int .i64 (0), .int .i64 (0), .int .i64 (0), .int .i64 (0), .int .i64 (0), .int .i64 (0), .int .i64 (0), .int .i64 (0), .int .i64 (0), .int .i64 (0), .int .i64 (0), .int .i64 (0), .int .i64 (0), .int .i64 (0), .int .i64 (0), .int .i64 (0), .int .i64 (0), .int .i64 (0), .int .i64 (0), .int .i64 (0), .int .i64 (0), .int .i64 (0), .int .i64 (0), .int .i64 (0), .int .i64 (0), .int .i64 (0), .int .i64 (0), .int .i64 (0), .int .i64 (0), .int .i64 (0), .int .i64 (0), .int .i64 (0), .int .i64 (0), .int .i64 (0), .int .i64 (0), .int .i64 (0), .int .i64 (0), .int .i64 (0), .int .i64 (0), .int .i64 (0), .int .i64 (0), .int .i64 (0), .int .i64 (0), .int .i64 (0), .int .i64 (0), .int .i64 (0), .int .i64 (0), .int .i64 (0), .int .i64 (0), .int .i64 (0), .int .i64 (0), .int .i64 (0), .int .i64 (0), .int .i64 (0), .int .i64 (0), .int .i64 (0), .int .i64 (0), .int .i64 (0), .int .i64 (0), .int .i64 (0), .int .i64 (0), .int .i64 (0), .int .i64 (0), .int .i64 (0), .int .i64 (0), .int .i64 (0), .int .i64 (0), .int .i64 (0), .int .i64 (0), .int .i64 (0), .int .i64 (0), .int .i64 (0), .int .i64 (0), .int .i64 (0), .int .i64 (0), .int .i64 (0), .int .i64 (0), .int .i64 (0), .int .i64 (0), .int .i64 (0), .int .i64 (0), .int .i64 (0), .int .i64 (0), .int .i64 (0), .int .i64 (0), .int .i64 (0), .int .i64 (0), .int .i64 (0), .int .i64 (0), .int .i64 (0), .int .i64 (0), .int .i64 (0), .int .i64 (0), .int .i64 (0), .int .i64 (0), .int .i64 (0), .int .i64 (0), .int .i64 (0), .int .i64 (0), .int .i64 (0), .int .i64 (0), .int .i64 (0), .int .i64 (0), .int .i64 (0), .int .i64 (0), .int .i64 (0), .int .i64 (0), .int .i64 (0), .int .i64 (0), .int .i64 (0), .int .i64 (0), .int .i64 (0), .int .i64 (0), .int .i64 (0), .int .i64 (0), .int .i64 (0), .int .i64 (0), .int .i64 (0), .int .i64 (0), .int .i64 (0), .int .i64 (0), .int .i64 (0), .int .i64 (0), .int .i64 (0), .int .i64 (0), .int .i64 (0), .int .i64 (0), .int .i64 (0), .int .i64 (0), .int .i64 (0), .int .i64 (0), .int .i64 (0), .int .i64 (0), .int .i64 (0), .int .i64 (0), .int .i64 (0), .int .i64 (0), .int .i64 (0), .int .i64 (0), .int .i64 (0), .int .i64 (0), .int .i64 (0), .int .i64 (0), .int .i64 (0), .int .i64 (0), .int .i64 (0), .int .i64 (0), .int .i64 (0), .int .i64 (0), .int .i64 (0), .int .i64 (0), .int .i64 (0), .int .i64 (0), .int .i64 (0), .int .i64 (0), .int .i64 (0), .int .i64 (0), .int .i64 (0), .int .i64 (0), .int .i64 (0), .int .i64 (0), .int .i64 (0), .int .i64 (0), .int .i64 (0), .int .i64 (0), .int .i64 (0), .int .i64 (0), .int .i64 (0), .int .i64 (0), .int .i64 (0), .int .i64 (0), .int .i64 (0), .int .i64 (0), .int .i64 (0), .int .i64 (0), .int .i64 (0), .int .i64 (0), .int .i64 (0), .int .i64 (0), .int .i64 (0), .int .i64 (0), .int .i64 (0), .int .i64 (0), .int .i64 (0), .int .i64 (0), .int .i64 (0), .int .i64 (0), .int .i64 (0), .int .i64 (0), .int .i64 (0), .int .i64 (0), .int .i64 (0), .int .i64 (0), .int .i64 (0), .int .i64 (0), .int .i64 (0), .int .i64 (0), .int .i64 (0), .int .i64 (0), .int .i64 (0), .int .i64 (0), .int .i64 (0), .int .i64 (0), .int .i64 (0), .int .i64 (0), .int .i64 (0), .int .i64 (0), .int .i64 (0), .int .i64 (0), .int .i64 (0), .int .i64 (0), .int .i64 (0), .int .i64 (0), .int .i64 (0), .int .i64 (0), .int .i64 (0), .int .i64 (0), .int .i64 (0), .int .i64 (0), .int .i64 (0), .int .i64 (0), .int .i64 (0), .int .i64 (0), .int .i64 (0), .int .i64 (0), .int .i64 (0), .int .i64 (0), .int .i64 (0), .int .i64 (0), .int .i64 (0), .int .i64 (0), .int .i64 (0), .int .i64 (0), .int .i64 (0), .int .i64 (0), .int .i64 (0), .int .i64 (0), .int .i64 (0), .int .i64 (0), .int .i64 (0), .int .i64 (0), .int .i64 (0), .int .i64 (0), .int .i64 (0), .int .i64 (0), .int .i64 (0), .int .i64 (0), .int .i64 (0), .int .i64 (0), .int .i64 (0), .int .i64 (0), .int .i64 (0), .int .i64 (0), .int .i64 (0), .int .i64 (0), .int .i64 (0), .int .i64 (0), .int .i64 (0), .int .i64 (0), .int .i64 (0), .int .i64 (0), .int .i64 (0), .int .i64 (0), .int .i64 (0), .int .i64 (0), .int .i64 (0), .int .i64 (0), .int .i64 (0), .int .i64 (0), .int .i64 (0), .int .i64 (0), .int .i64 (0), .int .i64 (0), .int .i64 (0), .int .i64 (0), .int .i64 (0), .int .i64 (0), .int .i64 (0), .int .i64 (0), .int .i64 (0), .int .i64 (0), .int .i64 (0), .int .i64 (0), .int .i64 (0), .int .i64 (0), .int .i64 (0), .int .i64 (0), .int .i64 (0), .int .i64 (0), .int .i64 (0), .int .i64 (0), .int .i64 (0), .int .i64 (0), .int .i64 (0), .int .i64 (0), .int .i64 (0), .int .i64 (0), .int .i64 (0), .int .i64 (0), .int .i64 (0), .int .i64 (0), .int .i64 (0), .int .i64 (0), .int .i64 (0), .int .i64 (0), .int .i64 (0), .int .i64 (0), .int .i64 (0), .int .i64 (0), .int .i64 (0), .int .i64 (0), .int .i64 (0), .int .i64 (0), .int .i64 (0), .int .i64 (0), .int .i64 (0), .int .i64 (0), .int .i64 (0), .int .i64 (0), .int .i64 (0), .int .i64 (0), .int .i64 (0), .int .i64 (0), .int .i64 (0), .int .i64 (0), .int .i64 (0), .int .i64 (0), .int .i64 (0), .int .i64 (0), .int .i64 (0), .int .i64 (0), .int .i64 (0), .int .i64 (0), .int .i64 (0), .int .i64 (0), .int .i64 (0), .int .i64 (0), .int .i64 (0), .int .i64 (0), .int .i64 (0), .int .i64 (0), .int .i64 (0), .int .i64 (0), .int .i64 (0), .int .i64 (0), .int .i64 (0), .int .i64 (0), .int .i64 (0), .int .i64 (0), .int .i64 (0), .int .i64 (0), .int .i64 (0), .int .i64 (0), .int .i64 (0), .int .i64 (0), .int .i64 (0), .int .i64 (0), .int .i64 (0), .int .i64 (0), .int .i64 (0), .int .i64 (0), .int .i64 (0), .int .i64 (0), .int .i64 (0), .int .i64 (0), .int .i64 (0), .int .i64 (0), .int .i64 (0), .int .i64 (0), .int .i64 (0), .int .i64 (0), .int .i64 (0), .int .i64 (0), .int .i64 (0), .int .i64 (0), .int .i64 (0), .int .i64 (0), .int .i64 (0), .int .i64 (0), .int .i64 (0), .int .i64 (0), .int .i64 (0), .int .i64 (0), .int .i64 (0), .int .i64 (0), .int .i64 (0), .int .i64 (0), .int .i64 (0), .int .i64 (0), .int .i64 (0), .int .i64 (0), .int .i64 (0), .int .i64 (0), .int .i64 (0), .int .i64 (0), .int .i64 (0), .int .i64 (0), .int .i64 (0), .int .i64 (0), .int .i64 (0), .int .i64 (0), .int .i64 (0), .int .i64 (0), .int .i64 (0), .int .i64 (0), .int .i64 (0), .int .i64 (0), .int .i64 (0), .int .i64 (0), .int .i64 (0), .int .i64 (0), .int .i64 (0), .int .i64 (0), .int .i64 (0), .int .i64 (0), .int .i64 (0), .int .i64 (0), .int .i64 (0), .int .i64 (0), .int .i64 (0), .int .i64 (0), .int .i64 (0), .int .i64 (0), .int .i64 (0), .int .i64 (0), .int .i64 (0), .int .i64 (0), .int .i64 (0), .int .i64 (0), .int .i64 (0), .int .i64 (0), .int .i64 (0), .int .i64 (0), .int .i64 (0), .int .i64 (0), .int .i64 (0), .int .i64 (0), .int .i64 (0), .int .i64 (0), .int .i64 (0), .int .i64 (0), .int .i64 (0), .int .i64 (0), .int .i64 (0), .int .i64 (0), .int .i64 (0), .int .i64 (0), .int .i64 (0), .int .i64 (0), .int .i64 (0), .int .i64 (0), .int .i64 (0), .int .i64 (0), .int .i64 (0), .int .i64 (0), .int .i64 (0), .int .i64 (0), .int .i64 (0), .int .i64 (0), .int .i64 (0), .int .i64 (0), .int .i64 (0), .int .i64 (0), .int .i64 (0), .int .i64 (0), .int .i64 (0), .int .i64 (0), .int .i64 (0), .int .i64 (0), .int .i64 (0), .int .i64 (0), .int .i64 (0), .int .i64 (0), .int .i64 (0), .int .i64 (0), .int .i64 (0), .int .i64 (0), .int .i64 (0), .int .i64 (0), .int .i64 (0), .int .i64 (0), .int .i64 (0), .int .i64 (0), .int .i64 (0), .int .i64 (0), .int .i64 (0), .int .i64 (0), .int .i64 (0), .int .i64 (0), .int .i64 (0), .int .i64 (0), .int .i64 (0), .int .i64 (0), .int .i64 (0), .int .i64 (0), .int .i64 (0), .int .i64 (0), .int .i64 (0), .int .i64 (0), .int .i64 (0), .int .i64 (0), .int .i64 (0), .int .i64 (0), .int .i64 (0), .int .i64 (0), .int .i64 (0), .int .i64 (0), .int .i64 (0), .int .i64 (0), .int .i64 (0), .int .i64 (0), .int .i64 (0), .int .i64 (0), .int .i64 (0), .int .i64 (0), .int .i64 (0), .int .i64 (0), .int .i64 (0), .int .i64 (0), .int .i64 (0), .int .i64 (0), .int .i64 (0), .int .i64 (0), .int .i64 (0), .int .i64 (0), .int .i64 (0), .int .i64 (0), .int .i64 (0), .int .i64 (0), .int .i64 (0), .int .i64 (0), .int .i64 (0), .int .i64 (0), .int .i64 (0), .int .i64 (0), .int .i64 (0), .int .i64 (0), .int .i64 (0), .int .i64 (0), .int .i64 (0), .int .i64 (0), .int .i64 (0), .int .i64 (0), .int .i64 (0), .int .i64 (0), .int .i64 (0), .int .i64 (0), .int .i64 (0), .int .i64 (0), .int .i64 (0), .int .i64 (0), .int .i64 (0), .int .i64 (0), .int .i64 (0), .int .i64 (0), .int .i64 (0), .int .i64 (0), .int .i64 (0), .int .i64 (0), .int .i64 (0), .int .i64 (0), .int .i64 (0), .int .i64 (0), .int .i64 (0), .int .i64 (0), .int .i64 (0), .int .i64 (0), .int .i64 (0), .int .i64 (0), .int .i64 (0), .bool false, .bool false, .bool false, .bool false, .bool false, .bool false, .bool false, .bool false, .bool false, .bool false, .bool false, .bool false, .bool false, .bool false, .bool false, .bool false, .slice none 0 0]) := _root_.id rfl
@[simp] theorem bytes58 : Tryd.t58.bytes = 8448 := _root_.id rfl
@[simp] theorem zero59 : Tryd.t59.zero = some (.agg #[.int .i64 (0), .int .i64 (0), .int .i64 (0), .int .i64 (0), .int .i64 (0), .slice none 0 0, .int .i64 (0), .int .i64 (0), .int .i64 (0), .int .i64 (0), .int .i64 (0), .int .i64 (0), .int .i64 (0), .int .i64 (0), .int .i64 (0), .int .i64 (0), .int .i64 (0), .int .i64 (0), .int .i64 (0), .int .i64 (0), .int .i64 (0), .int .i64 (0), .int .i64 (0), .int .i64 (0), .int .i64 (0), .int .i64 (0), .int .i64 (0), .int .i64 (0), .int .i64 (0), .int .i64 (0), .int .i64 (0), .int .i64 (0), .int .i64 (0), .int .i64 (0), .int .i64 (0), .int .i64 (0), .int .i64 (0), .int .i64 (0), .int .i64 (0), .int .i64 (0), .int .i64 (0), .int .i64 (0), .int .i64 (0), .int .i64 (0), .int .i64 (0), .int .i64 (0), .int .i64 (0), .int .i64 (0), .int .i64 (0), .int .i64 (0), .int .i64 (0), .int .i64 (0), .int .i64 (0), .int .i64 (0), .int .i64 (0), .int .i64 (0), .int .i64 (0), .int .i64 (0), .int .i64 (0), .int .i64 (0), .int .i64 (0), .int .i64 (0), .int .i64 (0), .int .i64 (0), .int .i64 (0), .int .i64 (0), .int .i64 (0), .int .i64 (0), .int .i64 (0), .int .i64 (0), .int .i64 (0), .int .i64 (0), .int .i64 (0), .int .i64 (0), .int .i64 (0), .int .i64 (0), .int .i64 (0), .int .i64 (0), .int .i64 (0), .int .i64 (0), .int .i64 (0), .int .i64 (0), .int .i64 (0), .int .i64 (0), .int .i64 (0), .int .i64 (0), .int .i64 (0), .int .i64 (0), .int .i64 (0), .int .i64 (0), .int .i64 (0), .int .i64 (0), .int .i64 (0), .int .i64 (0), .int .i64 (0), .int .i64 (0), .int .i64 (0), .int .i64 (0), .int .i64 (0), .int .i64 (0), .int .i64 (0), .int .i64 (0), .int .i64 (0), .int .i64 (0), .int .i64 (0), .int .i64 (0), .int .i64 (0), .int .i64 (0), .int .i64 (0), .int .i64 (0), .int .i64 (0), .int .i64 (0), .int .i64 (0), .int .i64 (0), .int .i64 (0), .int .i64 (0), .int .i64 (0), .int .i64 (0), .int .i64 (0), .int .i64 (0), .int .i64 (0), .int .i64 (0), .int .i64 (0), .int .i64 (0), .int .i64 (0), .int .i64 (0), .int .i64 (0), .int .i64 (0), .int .i64 (0), .int .i64 (0), .int .i64 (0), .int .i64 (0), .int .i64 (0), .int .i64 (0), .int .i64 (0), .int .i64 (0), .int .i64 (0), .int .i64 (0), .int .i64 (0), .int .i64 (0), .int .i64 (0), .int .i64 (0), .int .i64 (0), .int .i64 (0), .int .i64 (0), .int .i64 (0), .int .i64 (0), .int .i64 (0), .int .i64 (0), .int .i64 (0), .int .i64 (0), .int .i64 (0), .int .i64 (0), .int .i64 (0), .int .i64 (0), .int .i64 (0), .int .i64 (0), .int .i64 (0), .int .i64 (0), .int .i64 (0), .int .i64 (0), .int .i64 (0), .int .i64 (0), .int .i64 (0), .int .i64 (0), .int .i64 (0), .int .i64 (0), .int .i64 (0), .int .i64 (0), .int .i64 (0), .int .i64 (0), .int .i64 (0), .int .i64 (0), .int .i64 (0), .int .i64 (0), .int .i64 (0), .int .i64 (0), .int .i64 (0), .int .i64 (0), .int .i64 (0), .int .i64 (0), .int .i64 (0), .int .i64 (0), .int .i64 (0), .int .i64 (0), .int .i64 (0), .int .i64 (0), .int .i64 (0), .int .i64 (0), .int .i64 (0), .int .i64 (0), .int .i64 (0), .int .i64 (0), .int .i64 (0), .int .i64 (0), .int .i64 (0), .int .i64 (0), .int .i64 (0), .int .i64 (0), .int .i64 (0), .int .i64 (0), .int .i64 (0), .int .i64 (0), .int .i64 (0), .int .i64 (0), .int .i64 (0), .int .i64 (0), .int .i64 (0), .int .i64 (0), .int .i64 (0), .int .i64 (0), .int .i64 (0), .int .i64 (0), .int .i64 (0), .int .i64 (0), .int .i64 (0), .int .i64 (0), .int .i64 (0), .int .i64 (0), .int .i64 (0), .int .i64 (0), .int .i64 (0), .int .i64 (0), .int .i64 (0), .int .i64 (0), .int .i64 (0), .int .i64 (0), .int .i64 (0), .int .i64 (0), .int .i64 (0), .int .i64 (0), .int .i64 (0), .int .i64 (0), .int .i64 (0), .int .i64 (0), .int .i64 (0), .int .i64 (0), .int .i64 (0), .int .i64 (0), .int .i64 (0), .int .i64 (0), .int .i64 (0), .int .i64 (0), .int .i64 (0), .int .i64 (0), .int .i64 (0), .int .i64 (0), .int .i64 (0), .int .i64 (0), .int .i64 (0), .int .i64 (0), .int .i64 (0), .int .i64 (0), .int .i64 (0), .int .i64 (0), .int .i64 (0), .int .i64 (0), .int .i64 (0), .int .i64 (0), .int .i64 (0), .int .i64 (0), .int .i64 (0), .int .i64 (0), .int .i64 (0), .int .i64 (0), .int .i64 (0), .int .i64 (0), .int .i64 (0), .int .i64 (0), .int .i64 (0), .int .i64 (0), .int .i64 (0), .int .i64 (0), .int .i64 (0), .int .i64 (0), .int .i64 (0), .int .i64 (0), .int .i64 (0), .int .i64 (0), .int .i64 (0), .int .i64 (0), .int .i64 (0), .int .i64 (0), .int .i64 (0), .int .i64 (0), .int .i64 (0), .int .i64 (0), .int .i64 (0), .int .i64 (0), .int .i64 (0), .int .i64 (0), .int .i64 (0), .int .i64 (0), .int .i64 (0), .int .i64 (0), .int .i64 (0), .int .i64 (0), .int .i64 (0), .int .i64 (0), .int .i64 (0), .int .i64 (0), .int .i64 (0), .int .i64 (0), .int .i64 (0), .int .i64 (0), .int .i64 (0), .int .i64 (0), .int .i64 (0), .int .i64 (0), .int .i64 (0), .int .i64 (0), .int .i64 (0), .int .i64 (0), .int .i64 (0), .int .i64 (0), .int .i64 (0), .int .i64 (0), .int .i64 (0), .int .i64 (0), .int .i64 (0), .int .i64 (0), .int .i64 (0), .int .i64 (0), .int .i64 (0), .int .i64 (0), .int .i64 (0), .int .i64 (0), .int .i64 (0), .int .i64 (0), .int .i64 (0), .int .i64 (0), .int .i64 (0), .int .i64 (0), .int .i64 (0), .int .i64 (0), .int .i64 (0), .int .i64 (0), .int .i64 (0), .int .i64 (0), .int .i64 (0), .int .i64 (0), .int .i64 (0), .int .i64 (0), .int .i64 (0), .int .i64 (0), .int .i64 (0), .int .i64 (0), .int .i64 (0), .int .i64 (0), .int .i64 (0), .int .i64 (0), .int .i64 (0), .int .i64 (0), .int .i64 (0), .int .i64 (0), .int .i64 (0), .int .i64 (0), .int .i64 (0), .int .i64 (0), .int .i64 (0), .int .i64 (0), .int .i64 (0), .int .i64 (0), .int .i64 (0), .int .i64 (0), .int .i64 (0), .int .i64 (0), .int .i64 (0), .int .i64 (0), .int .i64 (0), .int .i64 (0), .int .i64 (0), .int .i64 (0), .int .i64 (0), .int .i64 (0), .int .i64 (0), .int .i64 (0), .int .i64 (0), .int .i64 (0), .int .i64 (0), .int .i64 (0), .int .i64 (0), .int .i64 (0), .int .i64 (0), .int .i64 (0), .int .i64 (0), .int .i64 (0), .int .i64 (0), .int .i64 (0), .int .i64 (0), .int .i64 (0), .int .i64 (0), .int .i64 (0), .int .i64 (0), .int .i64 (0), .int .i64 (0), .int .i64 (0), .int .i64 (0), .int .i64 (0), .int .i64 (0), .int .i64 (0), .int .i64 (0), .int .i64 (0), .int .i64 (0), .int .i64 (0), .int .i64 (0), .int .i64 (0), .int .i64 (0), .int .i64 (0), .int .i64 (0), .int .i64 (0), .int .i64 (0), .int .i64 (0), .int .i64 (0), .int .i64 (0), .int .i64 (0), .int .i64 (0), .int .i64 (0), .int .i64 (0), .int .i64 (0), .int .i64 (0), .int .i64 (0), .int .i64 (0), .int .i64 (0), .int .i64 (0), .int .i64 (0), .int .i64 (0), .int .i64 (0), .int .i64 (0), .int .i64 (0), .int .i64 (0), .int .i64 (0), .int .i64 (0), .int .i64 (0), .int .i64 (0), .int .i64 (0), .int .i64 (0), .int .i64 (0), .int .i64 (0), .int .i64 (0), .int .i64 (0), .int .i64 (0), .int .i64 (0), .int .i64 (0), .int .i64 (0), .int .i64 (0), .int .i64 (0), .int .i64 (0), .int .i64 (0), .int .i64 (0), .int .i64 (0), .int .i64 (0), .int .i64 (0), .int .i64 (0), .int .i64 (0), .int .i64 (0), .int .i64 (0), .int .i64 (0), .int .i64 (0), .int .i64 (0), .int .i64 (0), .int .i64 (0), .int .i64 (0), .int .i64 (0), .int .i64 (0), .int .i64 (0), .int .i64 (0), .int .i64 (0), .int .i64 (0), .int .i64 (0), .int .i64 (0), .int .i64 (0), .int .i64 (0), .int .i64 (0), .int .i64 (0), .int .i64 (0), .int .i64 (0), .int .i64 (0), .int .i64 (0), .int .i64 (0), .int .i64 (0), .int .i64 (0), .int .i64 (0), .int .i64 (0), .int .i64 (0), .int .i64 (0), .int .i64 (0), .int .i64 (0), .int .i64 (0), .int .i64 (0), .int .i64 (0), .int .i64 (0), .int .i64 (0), .int .i64 (0), .int .i64 (0), .int .i64 (0), .int .i64 (0), .int .i64 (0), .int .i64 (0), .int .i64 (0), .int .i64 (0), .int .i64 (0), .int .i64 (0), .int .i64 (0), .int .i64 (0), .int .i64 (0), .int .i64 (0), .int .i64 (0), .int .i64 (0), .int .i64 (0), .int .i64 (0), .int .i64 (0), .int .i64 (0), .int .i64 (0), .int .i64 (0), .int .i64 (0), .int .i64 (0), .int .i64 (0), .int .i64 (0), .int .i64 (0), .int .i64 (0), .int .i64 (0), .int .i64 (0), .int .i64 (0), .int .i64 (0), .int .i64 (0), .int .i64 (0), .int .i64 (0), .int .i64 (0), .int .i64 (0), .int .i64 (0), .int .i64 (0), .int .i64 (0), .int .i64 (0), .int .i64 (0), .int .i64 (0), .int .i64 (0), .int .i64 (0), .int .i64 (0), .int .i64 (0), .int .i64 (0), .int .i64 (0), .int .i64 (0), .int .i64 (0), .int .i64 (0), .int .i64 (0), .int .i64 (0), .int .i64 (0), .int .i64 (0), .int .i64 (0), .int .i64 (0), .int .i64 (0), .int .i64 (0), .int .i64 (0), .int .i64 (0), .int .i64 (0), .int .i64 (0), .int .i64 (0), .int .i64 (0), .int .i64 (0), .int .i64 (0), .int .i64 (0), .int .i64 (0), .int .i64 (0), .int .i64 (0), .int .i64 (0), .int .i64 (0), .int .i64 (0), .int .i64 (0), .int .i64 (0), .int .i64 (0), .int .i64 (0), .int .i64 (0), .int .i64 (0), .int .i64 (0), .int .i64 (0), .int .i64 (0), .int .i64 (0), .int .i64 (0), .int .i64 (0), .int .i64 (0), .int .i64 (0), .int .i64 (0), .int .i64 (0), .int .i64 (0), .int .i64 (0), .int .i64 (0), .int .i64 (0), .int .i64 (0), .int .i64 (0), .int .i64 (0), .int .i64 (0), .int .i64 (0), .int .i64 (0), .int .i64 (0), .int .i64 (0), .int .i64 (0), .int .i64 (0), .int .i64 (0), .int .i64 (0), .int .i64 (0), .int .i64 (0), .int .i64 (0), .int .i64 (0), .int .i64 (0), .int .i64 (0), .int .i64 (0), .int .i64 (0), .int .i64 (0), .int .i64 (0), .int .i64 (0), .int .i64 (0), .int .i64 (0), .int .i64 (0), .int .i64 (0), .int .i64 (0), .int .i64 (0), .int .i64 (0), .int .i64 (0), .int .i64 (0), .int .i64 (0), .int .i64 (0), .int .i64 (0), .int .i64 (0), .int .i64 (0), .int .i64 (0), .int .i64 (0), .int .i64 (0), .int .i64 (0), .int .i64 (0), .int .i64 (0), .int .i64 (0), .int .i64 (0), .int .i64 (0), .int .i64 (0), .int .i64 (0), .int .i64 (0), .int .i64 (0), .int .i64 (0), .int .i64 (0), .int .i64 (0), .int .i64 (0), .int .i64 (0), .int .i64 (0), .int .i64 (0), .int .i64 (0), .int .i64 (0), .int .i64 (0), .int .i64 (0), .int .i64 (0), .int .i64 (0), .int .i64 (0), .int .i64 (0), .int .i64 (0), .int .i64 (0), .int .i64 (0), .int .i64 (0), .int .i64 (0), .int .i64 (0), .int .i64 (0), .int .i64 (0), .int .i64 (0), .int .i64 (0), .int .i64 (0), .int .i64 (0), .int .i64 (0), .int .i64 (0), .int .i64 (0), .int .i64 (0), .int .i64 (0), .int .i64 (0), .int .i64 (0), .int .i64 (0), .int .i64 (0), .int .i64 (0), .int .i64 (0), .int .i64 (0), .int .i64 (0), .int .i64 (0), .int .i64 (0), .int .i64 (0), .int .i64 (0), .int .i64 (0), .int .i64 (0), .int .i64 (0), .int .i64 (0), .int .i64 (0), .int .i64 (0), .int .i64 (0), .int .i64 (0), .int .i64 (0), .int .i64 (0), .int .i64 (0), .int .i64 (0), .int .i64 (0), .int .i64 (0), .int .i64 (0), .int .i64 (0), .int .i64 (0), .int .i64 (0), .int .i64 (0), .int .i64 (0), .int .i64 (0), .int .i64 (0), .int .i64 (0), .int .i64 (0), .int .i64 (0), .int .i64 (0), .int .i64 (0), .int .i64 (0), .int .i64 (0), .int .i64 (0), .int .i64 (0), .int .i64 (0), .int .i64 (0), .int .i64 (0), .int .i64 (0), .int .i64 (0), .int .i64 (0), .int .i64 (0), .int .i64 (0), .int .i64 (0), .int .i64 (0), .int .i64 (0), .int .i64 (0), .int .i64 (0), .int .i64 (0), .int .i64 (0), .int .i64 (0), .int .i64 (0), .int .i64 (0), .int .i64 (0), .int .i64 (0), .int .i64 (0), .int .i64 (0), .int .i64 (0), .int .i64 (0), .int .i64 (0), .int .i64 (0), .int .i64 (0), .int .i64 (0), .int .i64 (0), .int .i64 (0), .int .i64 (0), .int .i64 (0), .int .i64 (0), .int .i64 (0), .int .i64 (0), .int .i64 (0), .int .i64 (0), .int .i64 (0), .int .i64 (0), .int .i64 (0), .int .i64 (0), .int .i64 (0), .int .i64 (0), .int .i64 (0), .int .i64 (0), .int .i64 (0), .int .i64 (0), .int .i64 (0), .int .i64 (0), .int .i64 (0), .int .i64 (0), .int .i64 (0), .int .i64 (0), .int .i64 (0), .int .i64 (0), .int .i64 (0), .int .i64 (0), .int .i64 (0), .int .i64 (0), .int .i64 (0), .int .i64 (0), .int .i64 (0), .int .i64 (0), .int .i64 (0), .int .i64 (0), .int .i64 (0), .int .i64 (0), .int .i64 (0), .int .i64 (0), .int .i64 (0), .int .i64 (0), .int .i64 (0), .int .i64 (0), .int .i64 (0), .int .i64 (0), .int .i64 (0), .int .i64 (0), .int .i64 (0), .int .i64 (0), .int .i64 (0), .int .i64 (0), .int .i64 (0), .int .i64 (0), .int .i64 (0), .int .i64 (0), .int .i64 (0), .int .i64 (0), .int .i64 (0), .int .i64 (0), .int .i64 (0), .int .i64 (0), .int .i64 (0), .int .i64 (0), .int .i64 (0), .int .i64 (0), .int .i64 (0), .int .i64 (0), .int .i64 (0), .int .i64 (0), .int .i64 (0), .int .i64 (0), .int .i64 (0), .int .i64 (0), .int .i64 (0), .int .i64 (0), .int .i64 (0), .int .i64 (0), .int .i64 (0), .int .i64 (0), .int .i64 (0), .int .i64 (0), .int .i64 (0), .int .i64 (0), .int .i64 (0), .int .i64 (0), .int .i64 (0), .int .i64 (0), .int .i64 (0), .int .i64 (0), .int .i64 (0), .int .i64 (0), .int .i64 (0), .int .i64 (0), .int .i64 (0), .int .i64 (0), .int .i64 (0), .int .i64 (0), .int .i64 (0), .int .i64 (0), .int .i64 (0), .int .i64 (0), .int .i64 (0), .int .i64 (0), .int .i64 (0), .int .i64 (0), .int .i64 (0), .int .i64 (0), .int .i64 (0), .int .i64 (0), .int .i64 (0), .int .i64 (0), .int .i64 (0), .int .i64 (0), .int .i64 (0), .int .i64 (0), .int .i64 (0), .int .i64 (0), .int .i64 (0), .int .i64 (0), .int .i64 (0), .int .i64 (0), .int .i64 (0), .int .i64 (0), .int .i64 (0), .int .i64 (0), .int .i64 (0), .int .i64 (0), .int .i64 (0), .int .i64 (0), .int .i64 (0), .int .i64 (0), .int .i64 (0), .int .i64 (0), .int .i64 (0), .int .i64 (0), .int .i64 (0), .int .i64 (0), .int .i64 (0), .int .i64 (0), .int .i64 (0), .int .i64 (0), .int .i64 (0), .int .i64 (0), .int .i64 (0), .int .i64 (0), .int .i64 (0), .int .i64 (0), .int .i64 (0), .int .i64 (0), .int .i64 (0), .int .i64 (0), .int .i64 (0), .int .i64 (0), .int .i64 (0), .int .i64 (0), .int .i64 (0), .int .i64 (0), .int .i64 (0), .int .i64 (0), .int .i64 (0), .int .i64 (0), .int .i64 (0), .int .i64 (0), .int .i64 (0), .int .i64 (0), .int .i64 (0), .int .i64 (0), .int .i64 (0), .int .i64 (0), .int .i64 (0), .int .i64 (0), .int .i64 (0), .int .i64 (0), .int .i64 (0), .int .i64 (0), .int .i64 (0), .int .i64 (0), .int .i64 (0), .int .i64 (0), .int .i64 (0), .int .i64 (0), .int .i64 (0), .int .i64 (0), .int .i64 (0), .int .i64 (0), .int .i64 (0), .int .i64 (0), .int .i64 (0), .int .i64 (0), .int .i64 (0), .int .i64 (0), .int .i64 (0), .int .i64 (0), .int .i64 (0), .int .i64 (0), .int .i64 (0), .int .i64 (0), .int .i64 (0), .int .i64 (0), .int .i64 (0), .int .i64 (0), .int .i64 (0), .int .i64 (0), .int .i64 (0), .int .i64 (0), .int .i64 (0), .int .i64 (0), .int .i64 (0), .int .i64 (0), .int .i64 (0), .int .i64 (0), .int .i64 (0), .int .i64 (0), .int .i64 (0), .int .i64 (0), .int .i64 (0), .int .i64 (0), .int .i64 (0), .int .i64 (0), .int .i64 (0), .int .i64 (0), .int .i64 (0), .int .i64 (0), .int .i64 (0), .int .i64 (0), .int .i64 (0), .int .i64 (0), .int .i64 (0), .int .i64 (0), .int .i64 (0), .int .i64 (0), .int .i64 (0), .int .i64 (0), .int .i64 (0), .int .i64 (0), .int .i64 (0), .int .i64 (0), .int .i64 (0), .int .i64 (0), .int .i64 (0), .int .i64 (0), .int .i64 (0), .int .i64 (0), .int .i64 (0), .int .i64 (0), .int .i64 (0), .int .i64 (0), .int .i64 (0), .int .i64 (0), .int .i64 (0), .int .i64 (0), .int .i64 (0), .int .i64 (0), .int .i64 (0), .int .i64 (0), .int .i64 (0), .int .i64 (0), .int .i64 (0), .int .i64 (0), .int .i64 (0), .int .i64 (0), .int .i64 (0), .int .i64 (0), .int .i64 (0), .int .i64 (0), .int .i64 (0), .int .i64 (0), .int .i64 (0), .int .i64 (0), .int .i64 (0), .int .i64 (0), .int .i64 (0), .int .i64 (0), .int .i64 (0), .int .i64 (0), .int .i64 (0), .int .i64 (0), .int .i64 (0), .int .i64 (0), .int .i64 (0), .int .i64 (0), .int .i64 (0), .int .i64 (0), .int .i64 (0), .int .i64 (0), .int .i64 (0), .int .i64 (0), .int .i64 (0), .int .i64 (0), .int .i64 (0), .int .i64 (0), .int .i64 (0), .int .i64 (0), .int .i64 (0), .int .i64 (0), .int .i64 (0), .int .i64 (0), .int .i64 (0), .int .i64 (0), .int .i64 (0), .int .i64 (0), .int .i64 (0), .int .i64 (0), .int .i64 (0), .int .i64 (0), .int .i64 (0), .bool false, .bool false, .bool false, .bool false, .bool false, .bool false, .bool false, .bool false, .bool false, .bool false, .bool false, .bool false, .bool false, .bool false, .bool false, .bool false, .slice none 0 0]) := _root_.id rfl
@[simp] theorem bytes59 : Tryd.t59.bytes = 8448 := _root_.id rfl
@[simp] theorem zero60 : Tryd.t60.zero = some (.nilFunc) := _root_.id rfl
@[simp] theorem bytes60 : Tryd.t60.bytes = 8 := _root_.id rfl
@[simp] theorem zero61 : Tryd.t61.zero = some (.nilFunc) := _root_.id rfl
@[simp] theorem bytes61 : Tryd.t61.bytes = 8 := _root_.id rfl
@[simp] theorem zero62 : Tryd.t62.zero = some (.nilFunc) := _root_.id rfl
@[simp] theorem bytes62 : Tryd.t62.bytes = 8 := _root_.id rfl
@[simp] theorem zero63 : Tryd.t63.zero = some (.pointer none) := _root_.id rfl
@[simp] theorem bytes63 : Tryd.t63.bytes = 8 := _root_.id rfl
@[simp] theorem zero64 : Tryd.t64.zero = some (.slice none 0 0) := _root_.id rfl
@[simp] theorem bytes64 : Tryd.t64.bytes = 24 := _root_.id rfl
@[simp] theorem zero65 : Tryd.t65.zero = some (.agg #[.pointer none, .slice none 0 0]) := _root_.id rfl
@[simp] theorem bytes65 : Tryd.t65.bytes = 32 := _root_.id rfl
@[simp] theorem zero66 : Tryd.t66.zero = some (.agg #[.pointer none, .slice none 0 0]) := _root_.id rfl
@[simp] theorem bytes66 : Tryd.t66.bytes = 32 := _root_.id rfl
@[simp] theorem zero67 : Tryd.t67.zero = some (.nilIface) := _root_.id rfl
@[simp] theorem bytes67 : Tryd.t67.bytes = 16 := _root_.id rfl
@[simp] theorem zero68 : Tryd.t68.zero = some (.nilIface) := _root_.id rfl
@[simp] theorem bytes68 : Tryd.t68.bytes = 16 := _root_.id rfl
@[simp] theorem zero70 : Tryd.t70.zero = some (.nilFunc) := _root_.id rfl
@[simp] theorem bytes70 : Tryd.t70.bytes = 8 := _root_.id rfl
@[simp] theorem zero71 : Tryd.t71.zero = some (.nilFunc) := _root_.id rfl
@[simp] theorem bytes71 : Tryd.t71.bytes = 8 := _root_.id rfl
@[simp] theorem zero72 : Tryd.t72.zero = some (.nilFunc) := _root_.id rfl
@[simp] theorem bytes72 : Tryd.t72.bytes = 8 := _root_.id rfl
@[simp] theorem zero73 : Tryd.t73.zero = some (.nilFunc) := _root_.id rfl
@[simp] theorem bytes73 : Tryd.t73.bytes = 8 := _root_.id rfl
@[simp] theorem zero74 : Tryd.t74.zero = some (.nilFunc) := _root_.id rfl
@[simp] theorem bytes74 : Tryd.t74.bytes = 8 := _root_.id rfl
@[simp] theorem zero75 : Tryd.t75.zero = some (.agg #[.int .i64 (0), .int .i64 (0), .int .i64 (0), .int .i64 (0), .string (sB []), .bool false]) := _root_.id rfl
@[simp] theorem bytes75 : Tryd.t75.bytes = 56 := _root_.id rfl
@[simp] theorem zero76 : Tryd.t76.zero = some (.agg #[.int .i64 (0), .int .i64 (0), .int .i64 (0), .int .i64 (0), .string (sB []), .bool false]) := _root_.id rfl
@[simp] theorem bytes76 : Tryd.t76.bytes = 56 := _root_.id rfl
@[simp] theorem zero77 : Tryd.t77.zero = some (.nilFunc) := _root_.id rfl
@[simp] theorem bytes77 : Tryd.t77.bytes = 8 := _root_.id rfl
@[simp] theorem zero78 : Tryd.t78.zero = some (.nilFunc) := _root_.id rfl
@[simp] theorem bytes78 : Tryd.t78.bytes = 8 := _root_.id rfl
@[simp] theorem zero79 : Tryd.t79.zero = some (.nilFunc) := _root_.id rfl
@[simp] theorem bytes79 : Tryd.t79.bytes = 8 := _root_.id rfl
@[simp] theorem zero80 : Tryd.t80.zero = some (.nilFunc) := _root_.id rfl
@[simp] theorem bytes80 : Tryd.t80.bytes = 8 := _root_.id rfl
@[simp] theorem zero81 : Tryd.t81.zero = some (.nilFunc) := _root_.id rfl
@[simp] theorem bytes81 : Tryd.t81.bytes = 8 := _root_.id rfl
@[simp] theorem zero82 : Tryd.t82.zero = some (.nilFunc) := _root_.id rfl
@[simp] theorem bytes82 : Tryd.t82.bytes = 8 := _root_.id rfl
@[simp] theorem zero83 : Tryd.t83.zero = some (.nilFunc) := _root_.id rfl
@[simp] theorem bytes83 : Tryd.t83.bytes = 8 := _root_.id rfl
@[simp] theorem zero84 : Tryd.t84.zero = some (.nilFunc) := _root_.id rfl
@[simp] theorem bytes84 : Tryd.t84.bytes = 8 := _root_.id rfl
@[simp] theorem zero85 : Tryd.t85.zero = some (.nilFunc) := _root_.id rfl
@[simp] theorem bytes85 : Tryd.t85.bytes = 8 := _root_.id rfl
@[simp] theorem zero86 : Tryd.t86.zero = some (.pointer none) := _root_.id rfl
@[simp] theorem bytes86 : Tryd.t86.bytes = 8 := _root_.id rfl
@[simp] theorem zero87 : Tryd.t87.zero = some (.nilFunc) := _root_.id rfl
@[simp] theorem bytes87 : Tryd.t87.bytes = 8 := _root_.id rfl
@[simp] theorem zero89 : Tryd.t89.zero = some (.nilFunc) := _root_.id rfl
@[simp] theorem bytes89 : Tryd.t89.bytes = 8 := _root_.id rfl
@[simp] theorem zero90 : Tryd.t90.zero = some (.nilFunc) := _root_.id rfl
@[simp] theorem bytes90 : Tryd.t90.bytes = 8 := _root_.id rfl
@[simp] theorem zero91 : Tryd.t91.zero = some (.nilFunc) := _root_.id rfl
@[simp] theorem bytes91 : Tryd.t91.bytes = 8 := _root_.id rfl
@[simp] theorem zero92 : Tryd.t92.zero = some (.nilFunc) := _root_.id rfl
@[simp] theorem bytes92 : Tryd.t92.bytes = 8 := _root_.id rfl
@[simp] theorem zero93 : Tryd.t93.zero = some (.pointer none) := _root_.id rfl
@[simp] theorem bytes93 : Tryd.t93.bytes = 8 := _root_.id rfl
@[simp] theorem zero94 : Tryd.t94.zero = some (.nilFunc) := _root_.id rfl
@[simp] theorem bytes94 : Tryd.t94.bytes = 8 := _root_.id rfl
@[simp] theorem zero95 : Tryd.t95.zero = some (.nilFunc) := _root_.id rfl
@[simp] theorem bytes95 : Tryd.t95.bytes = 8 := _root_.id rfl
@[simp] theorem zero96 : Tryd.t96.zero = some (.int .u64 (0)) := _root_.id rfl
@[simp] theorem bytes96 : Tryd.t96.bytes = 8 := _root_.id rfl
@[simp] theorem zero97 : Tryd.t97.zero = some (.nilFunc) := _root_.id rfl
@[simp] theorem bytes97 : Tryd.t97.bytes = 8 := _root_.id rfl
@[simp] theorem zero98 : Tryd.t98.zero = some (.nilFunc) := _root_.id rfl
@[simp] theorem bytes98 : Tryd.t98.bytes = 8 := _root_.id rfl
@[simp] theorem zero99 : Tryd.t99.zero = some (.nilFunc) := _root_.id rfl
@[simp] theorem bytes99 : Tryd.t99.bytes = 8 := _root_.id rfl
@[simp] theorem zero100 : Tryd.t100.zero = some (.nilFunc) := _root_.id rfl
@[simp] theorem bytes100 : Tryd.t100.bytes = 8 := _root_.id rfl
@[simp] theorem zero101 : Tryd.t101.zero = some (.agg #[.int .u8 (0), .int .u8 (0), .int .u8 (0), .int .u8 (0), .int .u8 (0), .int .u8 (0), .int .u8 (0), .int .u8 (0), .int .u8 (0), .int .u8 (0), .int .u8 (0), .int .u8 (0), .int .u8 (0), .int .u8 (0), .int .u8 (0), .int .u8 (0), .int .u8 (0), .int .u8 (0), .int .u8 (0), .int .u8 (0), .int .u8 (0), .int .u8 (0), .int .u8 (0), .int .u8 (0)]) := _root_.id rfl
@[simp] theorem bytes101 : Tryd.t101.bytes = 24 := _root_.id rfl
@[simp] theorem zero102 : Tryd.t102.zero = some (.int .u64 (0)) := _root_.id rfl
@[simp] theorem bytes102 : Tryd.t102.bytes = 8 := _root_.id rfl
@[simp] theorem zero103 : Tryd.t103.zero = some (.nilFunc) := _root_.id rfl
@[simp] theorem bytes103 : Tryd.t103.bytes = 8 := _root_.id rfl
@[simp] theorem zero104 : Tryd.t104.zero = some (.nilFunc) := _root_.id rfl
@[simp] theorem bytes104 : Tryd.t104.bytes = 8 := _root_.id rfl
@[simp] theorem zero106 : Tryd.t106.zero = some (.nilFunc) := _root_.id rfl
@[simp] theorem bytes106 : Tryd.t106.bytes = 8 := _root_.id rfl
@[simp] theorem zero107 : Tryd.t107.zero = some (.nilFunc) := _root_.id rfl
@[simp] theorem bytes107 : Tryd.t107.bytes = 8 := _root_.id rfl
@[simp] theorem zero108 : Tryd.t108.zero = some (.nilFunc) := _root_.id rfl
@[simp] theorem bytes108 : Tryd.t108.bytes = 8 := _root_.id rfl
@[simp] theorem zero109 : Tryd.t109.zero = some (.agg #[.int .u64 (0), .int .u64 (0), .int .u64 (0), .int .u64 (0), .int .u64 (0), .int .u64 (0), .int .u64 (0), .int .u64 (0), .int .u64 (0), .int .u64 (0), .int .u64 (0), .int .u64 (0), .int .u64 (0), .int .u64 (0), .int .u64 (0), .int .u64 (0), .int .u64 (0), .int .u64 (0), .int .u64 (0), .int .u64 (0)]) := _root_.id rfl
@[simp] theorem bytes109 : Tryd.t109.bytes = 160 := _root_.id rfl
@[simp] theorem zero110 : Tryd.t110.zero = some (.int .u32 (0)) := _root_.id rfl
@[simp] theorem bytes110 : Tryd.t110.bytes = 4 := _root_.id rfl
@[simp] theorem zero111 : Tryd.t111.zero = some (.agg #[.int .u8 (0), .int .u8 (0), .int .u8 (0), .int .u8 (0), .int .u8 (0), .int .u8 (0), .int .u8 (0), .int .u8 (0), .int .u8 (0), .int .u8 (0), .int .u8 (0), .int .u8 (0), .int .u8 (0), .int .u8 (0), .int .u8 (0), .int .u8 (0), .int .u8 (0), .int .u8 (0), .int .u8 (0), .int .u8 (0), .int .u8 (0), .int .u8 (0), .int .u8 (0), .int .u8 (0), .int .u8 (0), .int .u8 (0), .int .u8 (0), .int .u8 (0), .int .u8 (0), .int .u8 (0), .int .u8 (0), .int .u8 (0), .int .u8 (0), .int .u8 (0), .int .u8 (0), .int .u8 (0), .int .u8 (0), .int .u8 (0), .int .u8 (0), .int .u8 (0), .int .u8 (0), .int .u8 (0), .int .u8 (0), .int .u8 (0), .int .u8 (0), .int .u8 (0), .int .u8 (0), .int .u8 (0), .int .u8 (0), .int .u8 (0), .int .u8 (0), .int .u8 (0), .int .u8 (0), .int .u8 (0), .int .u8 (0), .int .u8 (0), .int .u8 (0), .int .u8 (0), .int .u8 (0), .int .u8 (0), .int .u8 (0), .int .u8 (0), .int .u8 (0), .int .u8 (0), .int .u8 (0)]) := _root_.id rfl
@[simp] theorem bytes111 : Tryd.t111.bytes = 65 := _root_.id rfl
@[simp] theorem zero112 : Tryd.t112.zero = some (.nilFunc) := _root_.id rfl
@[simp] theorem bytes112 : Tryd.t112.bytes = 8 := _root_.id rfl
@[simp] theorem zero113 : Tryd.t113.zero = some (.nilFunc) := _root_.id rfl
@[simp] theorem bytes113 : Tryd.t113.bytes = 8 := _root_.id rfl
@[simp] theorem zero114 : Tryd.t114.zero = some (.nilFunc) := _root_.id rfl
@[simp] theorem bytes114 : Tryd.t114.bytes = 8 := _root_.id rfl
@[simp] theorem zero115 : Tryd.t115.zero = some (.agg #[.int .u8 (0), .int .u8 (0), .int .u8 (0), .int .u8 (0), .int .u8 (0), .int .u8 (0), .int .u8 (0), .int .u8 (0), .int .u8 (0), .int .u8 (0), .int .u8 (0), .int .u8 (0), .int .u8 (0), .int .u8 (0), .int .u8 (0), .int .u8 (0), .int .u8 (0), .int .u8 (0), .int .u8 (0), .int .u8 (0), .int .u8 (0), .int .u8 (0), .int .u8 (0), .int .u8 (0), .int .u8 (0), .int .u8 (0), .int .u8 (0), .int .u8 (0), .int .u8 (0), .int .u8 (0), .int .u8 (0), .int .u8 (0)]) := _root_.id rfl
@[simp] theorem bytes115 : Tryd.t115.bytes = 32 := _root_.id rfl
@[simp] theorem zero116 : Tryd.t116.zero = some (.agg #[.int .u8 (0), .int .u8 (0), .int .u8 (0), .int .u8 (0), .int .u8 (0), .int .u8 (0), .int .u8 (0), .int .u8 (0), .int .u8 (0), .int .u8 (0), .int .u8 (0), .int .u8 (0), .int .u8 (0), .int .u8 (0), .int .u8 (0), .int .u8 (0), .int .u8 (0), .int .u8 (0), .int .u8 (0), .int .u8 (0), .int .u8 (0), .int .u8 (0), .int .u8 (0), .int .u8 (0), .int .u8 (0), .int .u8 (0), .int .u8 (0), .int .u8 (0), .int .u8 (0), .int .u8 (0), .int .u8 (0), .int .u8 (0), .int .u8 (0), .int .u8 (0), .int .u8 (0), .int .u8 (0), .int .u8 (0), .int .u8 (0), .int .u8 (0), .int .u8 (0), .int .u8 (0), .int .u8 (0), .int .u8 (0), .int .u8 (0), .int .u8 (0), .int .u8 (0), .int .u8 (0), .int .u8 (0), .int .u8 (0), .int .u8 (0), .int .u8 (0), .int .u8 (0), .int .u8 (0), .int .u8 (0), .int .u8 (0), .int .u8 (0), .int .u8 (0), .int .u8 (0), .int .u8 (0), .int .u8 (0), .int .u8 (0), .int .u8 (0), .int .u8 (0), .int .u8 (0)]) := _root_.id rfl
@[simp] theorem bytes116 : Tryd.t116.bytes = 64 := _root_.id rfl
@[simp] theorem zero117 : Tryd.t117.zero = some (.agg #[.pointer none, .pointer none, .pointer none, .string (sB [])]) := _root_.id rfl
@[simp] theorem bytes117 : Tryd.t117.bytes = 40 := _root_.id rfl
@[simp] theorem zero118 : Tryd.t118.zero = some (.agg #[.pointer none, .pointer none, .pointer none, .string (sB [])]) := _root_.id rfl
@[simp] theorem bytes118 : Tryd.t118.bytes = 40 := _root_.id rfl
@[simp] theorem zero119 : Tryd.t119.zero = some (.agg #[]) := _root_.id rfl
@[simp] theorem bytes119 : Tryd.t119.bytes = 0 := _root_.id rfl
@[simp] theorem zero120 : Tryd.t120.zero = some (.agg #[]) := _root_.id rfl
@[simp] theorem bytes120 : Tryd.t120.bytes = 0 := _root_.id rfl
@[simp] theorem zero121 : Tryd.t121.zero = some (.agg #[]) := _root_.id rfl
@[simp] theorem bytes121 : Tryd.t121.bytes = 0 := _root_.id rfl
@[simp] theorem zero122 : Tryd.t122.zero = some (.int .u8 (0)) := _root_.id rfl
@[simp] theorem bytes122 : Tryd.t122.bytes = 1 := _root_.id rfl
@[simp] theorem zero123 : Tryd.t123.zero = some (.int .u8 (0)) := _root_.id rfl
@[simp] theorem bytes123 : Tryd.t123.bytes = 1 := _root_.id rfl
@[simp] theorem zero124 : Tryd.t124.zero = some (.nilFunc) := _root_.id rfl
@[simp] theorem bytes124 : Tryd.t124.bytes = 8 := _root_.id rfl
@[simp] theorem zero125 : Tryd.t125.zero = some (.int .i32 (0)) := _root_.id rfl
@[simp] theorem bytes125 : Tryd.t125.bytes = 4 := _root_.id rfl
@[simp] theorem zero126 : Tryd.t126.zero = some (.int .i32 (0)) := _root_.id rfl
@[simp] theorem bytes126 : Tryd.t126.bytes = 4 := _root_.id rfl
@[simp] theorem zero127 : Tryd.t127.zero = some (.agg #[.int .u64 (0), .int .u64 (0), .int .u32 (0), .int .u8 (0), .int .u8 (0), .int .u8 (0), .int .u8 (0), .nilFunc, .pointer none, .int .i32 (0), .int .i32 (0)]) := _root_.id rfl
@[simp] theorem bytes127 : Tryd.t127.bytes = 48 := _root_.id rfl
@[simp] theorem zero128 : Tryd.t128.zero = some (.agg #[.int .u64 (0), .int .u64 (0), .int .u32 (0), .int .u8 (0), .int .u8 (0), .int .u8 (0), .int .u8 (0), .nilFunc, .pointer none, .int .i32 (0), .int .i32 (0)]) := _root_.id rfl
@[simp] theorem bytes128 : Tryd.t128.bytes = 48 := _root_.id rfl
@[simp] theorem isFn2 : isFn Tryd.prog 2 = true := by unfold isFn; rw [Tryd.func2]; rfl
@[simp] theorem isFn3 : isFn Tryd.prog 3 = true := by unfold isFn; rw [Tryd.func3]; rfl
@[simp] theorem isFn4 : isFn Tryd.prog 4 = true := by unfold isFn; rw [Tryd.func4]; rfl
@[simp] theorem isFn5 : isFn Tryd.prog 5 = true := by unfold isFn; rw [Tryd.func5]; rfl
@[simp] theorem isFn6 : isFn Tryd.prog 6 = true := by unfold isFn; rw [Tryd.func6]; rfl
@[simp] theorem isFn7 : isFn Tryd.prog 7 = true := by unfold isFn; rw [Tryd.func7]; rfl
@[simp] theorem isFn8 : isFn Tryd.prog 8 = true := by unfold isFn; rw [Tryd.func8]; rfl
@[simp] theorem isFn9 : isFn Tryd.prog 9 = true := by unfold isFn; rw [Tryd.func9]; rfl
@[simp] theorem isFn10 : isFn Tryd.prog 10 = true := by unfold isFn; rw [Tryd.func10]; rfl
@[simp] theorem isFn11 : isFn Tryd.prog 11 = true := by unfold isFn; rw [Tryd.func11]; rfl
@[simp] theorem isFn12 : isFn Tryd.prog 12 = true := by unfold isFn; rw [Tryd.func12]; rfl
@[simp] theorem isFn13 : isFn Tryd.prog 13 = true := by unfold isFn; rw [Tryd.func13]; rfl
@[simp] theorem isFn14 : isFn Tryd.prog 14 = true := by unfold isFn; rw [Tryd.func14]; rfl
@[simp] theorem isFn15 : isFn Tryd.prog 15 = true := by unfold isFn; rw [Tryd.func15]; rfl
@[simp] theorem isFn16 : isFn Tryd.prog 16 = true := by unfold isFn; rw [Tryd.func16]; rfl
@[simp] theorem isFn17 : isFn Tryd.prog 17 = true := by unfold isFn; rw [Tryd.func17]; rfl
@[simp] theorem isFn18 : isFn Tryd.prog 18 = true := by unfold isFn; rw [Tryd.func18]; rfl
@[simp] theorem isFn19 : isFn Tryd.prog 19 = true := by unfold isFn; rw [Tryd.func19]; rfl
@[simp] theorem isFn20 : isFn Tryd.prog 20 = true := by unfold isFn; rw [Tryd.func20]; rfl
@[simp] theorem isFn21 : isFn Tryd.prog 21 = true := by unfold isFn; rw [Tryd.func21]; rfl
@[simp] theorem isFn22 : isFn Tryd.prog 22 = true := by unfold isFn; rw [Tryd.func22]; rfl
@[simp] theorem isFn23 : isFn Tryd.prog 23 = true := by unfold isFn; rw [Tryd.func23]; rfl
@[simp] theorem isFn24 : isFn Tryd.prog 24 = true := by unfold isFn; rw [Tryd.func24]; rfl
@[simp] theorem isFn25 : isFn Tryd.prog 25 = true := by unfold isFn; rw [Tryd.func25]; rfl
@[simp] theorem isFn26 : isFn Tryd.prog 26 = true := by unfold isFn; rw [Tryd.func26]; rfl
@[simp] theorem isFn27 : isFn Tryd.prog 27 = true := by unfold isFn; rw [Tryd.func27]; rfl
@[simp] theorem isFn28 : isFn Tryd.prog 28 = true := by unfold isFn; rw [Tryd.func28]; rfl
@[simp] theorem isFn29 : isFn Tryd.prog 29 = true := by unfold isFn; rw [Tryd.func29]; rfl
@[simp] theorem isFn30 : isFn Tryd.prog 30 = true := by unfold isFn; rw [Tryd.func30]; rfl
@[simp] theorem isFn31 : isFn Tryd.prog 31 = true := by unfold isFn; rw [Tryd.func31]; rfl
@[simp] theorem isFn32 : isFn Tryd.prog 32 = true := by unfold isFn; rw [Tryd.func32]; rfl
@[simp] theorem isFn33 : isFn Tryd.prog 33 = true := by unfold isFn; rw [Tryd.func33]; rfl
@[simp] theorem isFn34 : isFn Tryd.prog 34 = true := by unfold isFn; rw [Tryd.func34]; rfl
@[simp] theorem isFn35 : isFn Tryd.prog 35 = true := by unfold isFn; rw [Tryd.func35]; rfl
@[simp] theorem isFn36 : isFn Tryd.prog 36 = true := by unfold isFn; rw [Tryd.func36]; rfl
@[simp] theorem isFn37 : isFn Tryd.prog 37 = true := by unfold isFn; rw [Tryd.func37]; rfl
@[simp] theorem isFn38 : isFn Tryd.prog 38 = true := by unfold isFn; rw [Tryd.func38]; rfl
@[simp] theorem isFn39 : isFn Tryd.prog 39 = true := by unfold isFn; rw [Tryd.func39]; rfl
@[simp] theorem isFn40 : isFn Tryd.prog 40 = true := by unfold isFn; rw [Tryd.func40]; rfl
@[simp] theorem isFn41 : isFn Tryd.prog 41 = true := by unfold isFn; rw [Tryd.func41]; rfl
@[simp] theorem isFn42 : isFn Tryd.prog 42 = true := by unfold isFn; rw [Tryd.func42]; rfl
@[simp] theorem isFn43 : isFn Tryd.prog 43 = true := by unfold isFn; rw [Tryd.func43]; rfl
@[simp] theorem isFn44 : isFn Tryd.prog 44 = true := by unfold isFn; rw [Tryd.func44]; rfl
@[simp] theorem isFn46 : isFn Tryd.prog 46 = true := by unfold isFn; rw [Tryd.func46]; rfl
@[simp] theorem isFn47 : isFn Tryd.prog 47 = true := by unfold isFn; rw [Tryd.func47]; rfl
@[simp] theorem isFn48 : isFn Tryd.prog 48 = true := by unfold isFn; rw [Tryd.func48]; rfl
@[simp] theorem isFn49 : isFn Tryd.prog 49 = true := by unfold isFn; rw [Tryd.func49]; rfl
@[simp] theorem isFn51 : isFn Tryd.prog 51 = true := by unfold isFn; rw [Tryd.func51]; rfl
@[simp] theorem isFn52 : isFn Tryd.prog 52 = true := by unfold isFn; rw [Tryd.func52]; rfl
@[simp] theorem isFn53 : isFn Tryd.prog 53 = true := by unfold isFn; rw [Tryd.func53]; rfl
@[simp] theorem isFn54 : isFn Tryd.prog 54 = true := by unfold isFn; rw [Tryd.func54]; rfl
@[simp] theorem isFn55 : isFn Tryd.prog 55 = true := by unfold isFn; rw [Tryd.func55]; rfl
@[simp] theorem isFn56 : isFn Tryd.prog 56 = true := by unfold isFn; rw [Tryd.func56]; rfl
@[simp] theorem isFn57 : isFn Tryd.prog 57 = true := by unfold isFn; rw [Tryd.func57]; rfl
@[simp] theorem isFn58 : isFn Tryd.prog 58 = true := by unfold isFn; rw [Tryd.func58]; rfl
@[simp] theorem isFn59 : isFn Tryd.prog 59 = true := by unfold isFn; rw [Tryd.func59]; rfl
@[simp] theorem isFn60 : isFn Tryd.prog 60 = true := by unfold isFn; rw [Tryd.func60]; rfl
@[simp] theorem isFn61 : isFn Tryd.prog 61 = true := by unfold isFn; rw [Tryd.func61]; rfl
@[simp] theorem isFn62 : isFn Tryd.prog 62 = true := by unfold isFn; rw [Tryd.func62]; rfl
@[simp] theorem isFn63 : isFn Tryd.prog 63 = true := by unfold isFn; rw [Tryd.func63]; rfl
@[simp] theorem isFn64 : isFn Tryd.prog 64 = true := by unfold isFn; rw [Tryd.func64]; rfl
@[simp] theorem isFn87 : isFn Tryd.prog 87 = true := by unfold isFn; rw [Tryd.func87]; rfl
attribute [simp] Tryd.underlying0 Tryd.underlying1 Tryd.underlying2 Tryd.underlying3 Tryd.underlying4 Tryd.underlying5 Tryd.underlying6 Tryd.underlying7 Tryd.underlying8 Tryd.underlying9 Tryd.underlying10 Tryd.underlying11 Tryd.underlying12 Tryd.underlying13 Tryd.underlying14 Tryd.underlying15 Tryd.underlying16 Tryd.underlying17 Tryd.underlying18 Tryd.underlying19 Tryd.underlying20 Tryd.underlying21 Tryd.underlying22 Tryd.underlying23 Tryd.underlying24 Tryd.underlying25 Tryd.underlying26 Tryd.underlying27 Tryd.underlying28 Tryd.underlying29 Tryd.underlying30 Tryd.underlying31 Tryd.underlying32 Tryd.underlying33 Tryd.underlying34 Tryd.underlying35 Tryd.underlying36 Tryd.underlying37 Tryd.underlying38 Tryd.underlying39 Tryd.underlying40 Tryd.underlying41 Tryd.underlying42 Tryd.underlying43 Tryd.underlying44 Tryd.underlying45 Tryd.underlying46 Tryd.underlying47 Tryd.underlying48 Tryd.underlying49 Tryd.underlying50 Tryd.underlying51 Tryd.underlying52 Tryd.underlying53 Tryd.underlying54 Tryd.underlying55 Tryd.underlying56 Tryd.underlying57 Tryd.underlying58 Tryd.underlying59 Tryd.underlying60 Tryd.underlying61 Tryd.underlying62 Tryd.underlying63 Tryd.underlying64 Tryd.underlying65 Tryd.underlying66 Tryd.underlying67 Tryd.underlying68 Tryd.underlying69 Tryd.underlying70 Tryd.underlying71 Tryd.underlying72 Tryd.underlying73 Tryd.underlying74 Tryd.underlying75 Tryd.underlying76 Tryd.underlying77 Tryd.underlying78 Tryd.underlying79 Tryd.underlying80 Tryd.underlying81 Tryd.underlying82 Tryd.underlying83 Tryd.underlying84 Tryd.underlying85 Tryd.underlying86 Tryd.underlying87 Tryd.underlying88 Tryd.underlying89 Tryd.underlying90 Tryd.underlying91 Tryd.underlying92 Tryd.underlying93 Tryd.underlying94 Tryd.underlying95 Tryd.underlying96 Tryd.underlying97 Tryd.underlying98 Tryd.underlying99 Tryd.underlying100 Tryd.underlying101 Tryd.underlying102 Tryd.underlying103 Tryd.underlying104 Tryd.underlying105 Tryd.underlying106 Tryd.underlying107 Tryd.underlying108 Tryd.underlying109 Tryd.underlying110 Tryd.underlying111 Tryd.underlying112 Tryd.underlying113 Tryd.underlying114 Tryd.underlying115 Tryd.underlying116 Tryd.underlying117 Tryd.underlying118 Tryd.underlying119 Tryd.underlying120 Tryd.underlying121 Tryd.underlying122 Tryd.underlying123 Tryd.underlying124 Tryd.underlying125 Tryd.underlying126 Tryd.underlying127 Tryd.underlying128
attribute [simp] Tryd.results2 Tryd.results3 Tryd.results4 Tryd.results5 Tryd.results6 Tryd.results7 Tryd.results8 Tryd.results9 Tryd.results10 Tryd.results11 Tryd.results12 Tryd.results13 Tryd.results14 Tryd.results15 Tryd.results16 Tryd.results17 Tryd.results18 Tryd.results19 Tryd.results20 Tryd.results21 Tryd.results22 Tryd.results23 Tryd.results24 Tryd.results25 Tryd.results26 Tryd.results27 Tryd.results28 Tryd.results29 Tryd.results30 Tryd.results31 Tryd.results32 Tryd.results33 Tryd.results34 Tryd.results35 Tryd.results36 Tryd.results37 Tryd.results38 Tryd.results39 Tryd.results40 Tryd.results41 Tryd.results42 Tryd.results43 Tryd.results44 Tryd.results46 Tryd.results47 Tryd.results48 Tryd.results49 Tryd.results51 Tryd.results52 Tryd.results53 Tryd.results54 Tryd.results55 Tryd.results56 Tryd.results57 Tryd.results58 Tryd.results59 Tryd.results60 Tryd.results61 Tryd.results62 Tryd.results63 Tryd.results64 Tryd.results87
end Go.Proofs.YtmmmdmandocbhaaDoor
end
