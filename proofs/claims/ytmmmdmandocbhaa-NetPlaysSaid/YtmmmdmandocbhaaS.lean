/- Helpers of this claim: an evaluator over plain values and its laws. -/
import Derived.Test.YtmmmdmandocbhaaAu
import Derived.Test.YtmmmdmandocbhaaProg
section
/- Facts of the program, as rules for simp (printed by gen_seat.py). -/
set_option linter.unusedVariables false
set_option maxRecDepth 20000
namespace Go.Proofs.Ytmmmdmandocbhaa
open Go Go.Proofs.Ytmmmdmandocbhaa.Den
@[simp] theorem info0 : Try.prog.info? 0 = some Try.t0 := Try.type0
@[simp] theorem cells0 : Try.prog.cellsOf 0 = Try.t0.size := by simp [Program.cellsOf]
@[simp] theorem size0 : Try.t0.size = 1 := _root_.id rfl
@[simp] theorem info1 : Try.prog.info? 1 = some Try.t1 := Try.type1
@[simp] theorem cells1 : Try.prog.cellsOf 1 = Try.t1.size := by simp [Program.cellsOf]
@[simp] theorem size1 : Try.t1.size = 1 := _root_.id rfl
@[simp] theorem info2 : Try.prog.info? 2 = some Try.t2 := Try.type2
@[simp] theorem cells2 : Try.prog.cellsOf 2 = Try.t2.size := by simp [Program.cellsOf]
@[simp] theorem size2 : Try.t2.size = 1 := _root_.id rfl
@[simp] theorem info3 : Try.prog.info? 3 = some Try.t3 := Try.type3
@[simp] theorem cells3 : Try.prog.cellsOf 3 = Try.t3.size := by simp [Program.cellsOf]
@[simp] theorem size3 : Try.t3.size = 1 := _root_.id rfl
@[simp] theorem info4 : Try.prog.info? 4 = some Try.t4 := Try.type4
@[simp] theorem cells4 : Try.prog.cellsOf 4 = Try.t4.size := by simp [Program.cellsOf]
@[simp] theorem size4 : Try.t4.size = 1 := _root_.id rfl
@[simp] theorem info5 : Try.prog.info? 5 = some Try.t5 := Try.type5
@[simp] theorem cells5 : Try.prog.cellsOf 5 = Try.t5.size := by simp [Program.cellsOf]
@[simp] theorem size5 : Try.t5.size = 1 := _root_.id rfl
@[simp] theorem info6 : Try.prog.info? 6 = some Try.t6 := Try.type6
@[simp] theorem cells6 : Try.prog.cellsOf 6 = Try.t6.size := by simp [Program.cellsOf]
@[simp] theorem size6 : Try.t6.size = 1 := _root_.id rfl
@[simp] theorem info7 : Try.prog.info? 7 = some Try.t7 := Try.type7
@[simp] theorem cells7 : Try.prog.cellsOf 7 = Try.t7.size := by simp [Program.cellsOf]
@[simp] theorem size7 : Try.t7.size = 4 := _root_.id rfl
@[simp] theorem info8 : Try.prog.info? 8 = some Try.t8 := Try.type8
@[simp] theorem cells8 : Try.prog.cellsOf 8 = Try.t8.size := by simp [Program.cellsOf]
@[simp] theorem size8 : Try.t8.size = 4 := _root_.id rfl
@[simp] theorem info9 : Try.prog.info? 9 = some Try.t9 := Try.type9
@[simp] theorem cells9 : Try.prog.cellsOf 9 = Try.t9.size := by simp [Program.cellsOf]
@[simp] theorem size9 : Try.t9.size = 1 := _root_.id rfl
@[simp] theorem info10 : Try.prog.info? 10 = some Try.t10 := Try.type10
@[simp] theorem cells10 : Try.prog.cellsOf 10 = Try.t10.size := by simp [Program.cellsOf]
@[simp] theorem size10 : Try.t10.size = 1 := _root_.id rfl
@[simp] theorem info11 : Try.prog.info? 11 = some Try.t11 := Try.type11
@[simp] theorem cells11 : Try.prog.cellsOf 11 = Try.t11.size := by simp [Program.cellsOf]
@[simp] theorem size11 : Try.t11.size = 1 := _root_.id rfl
@[simp] theorem info12 : Try.prog.info? 12 = some Try.t12 := Try.type12
@[simp] theorem cells12 : Try.prog.cellsOf 12 = Try.t12.size := by simp [Program.cellsOf]
@[simp] theorem size12 : Try.t12.size = 1 := _root_.id rfl
@[simp] theorem info13 : Try.prog.info? 13 = some Try.t13 := Try.type13
@[simp] theorem cells13 : Try.prog.cellsOf 13 = Try.t13.size := by simp [Program.cellsOf]
@[simp] theorem size13 : Try.t13.size = 2 := _root_.id rfl
@[simp] theorem info14 : Try.prog.info? 14 = some Try.t14 := Try.type14
@[simp] theorem cells14 : Try.prog.cellsOf 14 = Try.t14.size := by simp [Program.cellsOf]
@[simp] theorem size14 : Try.t14.size = 2 := _root_.id rfl
@[simp] theorem info15 : Try.prog.info? 15 = some Try.t15 := Try.type15
@[simp] theorem cells15 : Try.prog.cellsOf 15 = Try.t15.size := by simp [Program.cellsOf]
@[simp] theorem size15 : Try.t15.size = 1 := _root_.id rfl
@[simp] theorem info16 : Try.prog.info? 16 = some Try.t16 := Try.type16
@[simp] theorem cells16 : Try.prog.cellsOf 16 = Try.t16.size := by simp [Program.cellsOf]
@[simp] theorem size16 : Try.t16.size = 1 := _root_.id rfl
@[simp] theorem info17 : Try.prog.info? 17 = some Try.t17 := Try.type17
@[simp] theorem cells17 : Try.prog.cellsOf 17 = Try.t17.size := by simp [Program.cellsOf]
@[simp] theorem size17 : Try.t17.size = 1 := _root_.id rfl
@[simp] theorem info18 : Try.prog.info? 18 = some Try.t18 := Try.type18
@[simp] theorem cells18 : Try.prog.cellsOf 18 = Try.t18.size := by simp [Program.cellsOf]
@[simp] theorem size18 : Try.t18.size = 1 := _root_.id rfl
@[simp] theorem info19 : Try.prog.info? 19 = some Try.t19 := Try.type19
@[simp] theorem cells19 : Try.prog.cellsOf 19 = Try.t19.size := by simp [Program.cellsOf]
@[simp] theorem size19 : Try.t19.size = 1 := _root_.id rfl
@[simp] theorem info20 : Try.prog.info? 20 = some Try.t20 := Try.type20
@[simp] theorem cells20 : Try.prog.cellsOf 20 = Try.t20.size := by simp [Program.cellsOf]
@[simp] theorem size20 : Try.t20.size = 1 := _root_.id rfl
@[simp] theorem info21 : Try.prog.info? 21 = some Try.t21 := Try.type21
@[simp] theorem cells21 : Try.prog.cellsOf 21 = Try.t21.size := by simp [Program.cellsOf]
@[simp] theorem size21 : Try.t21.size = 1 := _root_.id rfl
@[simp] theorem info22 : Try.prog.info? 22 = some Try.t22 := Try.type22
@[simp] theorem cells22 : Try.prog.cellsOf 22 = Try.t22.size := by simp [Program.cellsOf]
@[simp] theorem size22 : Try.t22.size = 1 := _root_.id rfl
@[simp] theorem info23 : Try.prog.info? 23 = some Try.t23 := Try.type23
@[simp] theorem cells23 : Try.prog.cellsOf 23 = Try.t23.size := by simp [Program.cellsOf]
@[simp] theorem size23 : Try.t23.size = 1 := _root_.id rfl
@[simp] theorem info24 : Try.prog.info? 24 = some Try.t24 := Try.type24
@[simp] theorem cells24 : Try.prog.cellsOf 24 = Try.t24.size := by simp [Program.cellsOf]
@[simp] theorem size24 : Try.t24.size = 1 := _root_.id rfl
@[simp] theorem info25 : Try.prog.info? 25 = some Try.t25 := Try.type25
@[simp] theorem cells25 : Try.prog.cellsOf 25 = Try.t25.size := by simp [Program.cellsOf]
@[simp] theorem size25 : Try.t25.size = 1 := _root_.id rfl
@[simp] theorem info26 : Try.prog.info? 26 = some Try.t26 := Try.type26
@[simp] theorem cells26 : Try.prog.cellsOf 26 = Try.t26.size := by simp [Program.cellsOf]
@[simp] theorem size26 : Try.t26.size = 1 := _root_.id rfl
@[simp] theorem info27 : Try.prog.info? 27 = some Try.t27 := Try.type27
@[simp] theorem cells27 : Try.prog.cellsOf 27 = Try.t27.size := by simp [Program.cellsOf]
@[simp] theorem size27 : Try.t27.size = 1 := _root_.id rfl
@[simp] theorem info28 : Try.prog.info? 28 = some Try.t28 := Try.type28
@[simp] theorem cells28 : Try.prog.cellsOf 28 = Try.t28.size := by simp [Program.cellsOf]
@[simp] theorem size28 : Try.t28.size = 1 := _root_.id rfl
@[simp] theorem info29 : Try.prog.info? 29 = some Try.t29 := Try.type29
@[simp] theorem cells29 : Try.prog.cellsOf 29 = Try.t29.size := by simp [Program.cellsOf]
@[simp] theorem size29 : Try.t29.size = 1 := _root_.id rfl
@[simp] theorem info30 : Try.prog.info? 30 = some Try.t30 := Try.type30
@[simp] theorem cells30 : Try.prog.cellsOf 30 = Try.t30.size := by simp [Program.cellsOf]
@[simp] theorem size30 : Try.t30.size = 1 := _root_.id rfl
@[simp] theorem info31 : Try.prog.info? 31 = some Try.t31 := Try.type31
@[simp] theorem cells31 : Try.prog.cellsOf 31 = Try.t31.size := by simp [Program.cellsOf]
@[simp] theorem size31 : Try.t31.size = 4 := _root_.id rfl
@[simp] theorem info32 : Try.prog.info? 32 = some Try.t32 := Try.type32
@[simp] theorem cells32 : Try.prog.cellsOf 32 = Try.t32.size := by simp [Program.cellsOf]
@[simp] theorem size32 : Try.t32.size = 4 := _root_.id rfl
@[simp] theorem info33 : Try.prog.info? 33 = some Try.t33 := Try.type33
@[simp] theorem cells33 : Try.prog.cellsOf 33 = Try.t33.size := by simp [Program.cellsOf]
@[simp] theorem size33 : Try.t33.size = 10 := _root_.id rfl
@[simp] theorem info34 : Try.prog.info? 34 = some Try.t34 := Try.type34
@[simp] theorem cells34 : Try.prog.cellsOf 34 = Try.t34.size := by simp [Program.cellsOf]
@[simp] theorem size34 : Try.t34.size = 10 := _root_.id rfl
@[simp] theorem info35 : Try.prog.info? 35 = some Try.t35 := Try.type35
@[simp] theorem cells35 : Try.prog.cellsOf 35 = Try.t35.size := by simp [Program.cellsOf]
@[simp] theorem size35 : Try.t35.size = 1 := _root_.id rfl
@[simp] theorem info36 : Try.prog.info? 36 = some Try.t36 := Try.type36
@[simp] theorem cells36 : Try.prog.cellsOf 36 = Try.t36.size := by simp [Program.cellsOf]
@[simp] theorem size36 : Try.t36.size = 1 := _root_.id rfl
@[simp] theorem info37 : Try.prog.info? 37 = some Try.t37 := Try.type37
@[simp] theorem cells37 : Try.prog.cellsOf 37 = Try.t37.size := by simp [Program.cellsOf]
@[simp] theorem size37 : Try.t37.size = 1 := _root_.id rfl
@[simp] theorem info38 : Try.prog.info? 38 = some Try.t38 := Try.type38
@[simp] theorem cells38 : Try.prog.cellsOf 38 = Try.t38.size := by simp [Program.cellsOf]
@[simp] theorem size38 : Try.t38.size = 1 := _root_.id rfl
@[simp] theorem info39 : Try.prog.info? 39 = some Try.t39 := Try.type39
@[simp] theorem cells39 : Try.prog.cellsOf 39 = Try.t39.size := by simp [Program.cellsOf]
@[simp] theorem size39 : Try.t39.size = 1 := _root_.id rfl
@[simp] theorem info40 : Try.prog.info? 40 = some Try.t40 := Try.type40
@[simp] theorem cells40 : Try.prog.cellsOf 40 = Try.t40.size := by simp [Program.cellsOf]
@[simp] theorem size40 : Try.t40.size = 5 := _root_.id rfl
@[simp] theorem info41 : Try.prog.info? 41 = some Try.t41 := Try.type41
@[simp] theorem cells41 : Try.prog.cellsOf 41 = Try.t41.size := by simp [Program.cellsOf]
@[simp] theorem size41 : Try.t41.size = 5 := _root_.id rfl
@[simp] theorem info42 : Try.prog.info? 42 = some Try.t42 := Try.type42
@[simp] theorem cells42 : Try.prog.cellsOf 42 = Try.t42.size := by simp [Program.cellsOf]
@[simp] theorem size42 : Try.t42.size = 1 := _root_.id rfl
@[simp] theorem info43 : Try.prog.info? 43 = some Try.t43 := Try.type43
@[simp] theorem cells43 : Try.prog.cellsOf 43 = Try.t43.size := by simp [Program.cellsOf]
@[simp] theorem size43 : Try.t43.size = 1 := _root_.id rfl
@[simp] theorem info44 : Try.prog.info? 44 = some Try.t44 := Try.type44
@[simp] theorem cells44 : Try.prog.cellsOf 44 = Try.t44.size := by simp [Program.cellsOf]
@[simp] theorem size44 : Try.t44.size = 1 := _root_.id rfl
@[simp] theorem info45 : Try.prog.info? 45 = some Try.t45 := Try.type45
@[simp] theorem cells45 : Try.prog.cellsOf 45 = Try.t45.size := by simp [Program.cellsOf]
@[simp] theorem size45 : Try.t45.size = 1 := _root_.id rfl
@[simp] theorem info46 : Try.prog.info? 46 = some Try.t46 := Try.type46
@[simp] theorem cells46 : Try.prog.cellsOf 46 = Try.t46.size := by simp [Program.cellsOf]
@[simp] theorem size46 : Try.t46.size = 1 := _root_.id rfl
@[simp] theorem info47 : Try.prog.info? 47 = some Try.t47 := Try.type47
@[simp] theorem cells47 : Try.prog.cellsOf 47 = Try.t47.size := by simp [Program.cellsOf]
@[simp] theorem size47 : Try.t47.size = 1 := _root_.id rfl
@[simp] theorem info48 : Try.prog.info? 48 = some Try.t48 := Try.type48
@[simp] theorem cells48 : Try.prog.cellsOf 48 = Try.t48.size := by simp [Program.cellsOf]
@[simp] theorem size48 : Try.t48.size = 1 := _root_.id rfl
@[simp] theorem info49 : Try.prog.info? 49 = some Try.t49 := Try.type49
@[simp] theorem cells49 : Try.prog.cellsOf 49 = Try.t49.size := by simp [Program.cellsOf]
@[simp] theorem size49 : Try.t49.size = 1 := _root_.id rfl
@[simp] theorem info50 : Try.prog.info? 50 = some Try.t50 := Try.type50
@[simp] theorem cells50 : Try.prog.cellsOf 50 = Try.t50.size := by simp [Program.cellsOf]
@[simp] theorem size50 : Try.t50.size = 1 := _root_.id rfl
@[simp] theorem info51 : Try.prog.info? 51 = some Try.t51 := Try.type51
@[simp] theorem cells51 : Try.prog.cellsOf 51 = Try.t51.size := by simp [Program.cellsOf]
@[simp] theorem size51 : Try.t51.size = 1 := _root_.id rfl
@[simp] theorem info52 : Try.prog.info? 52 = some Try.t52 := Try.type52
@[simp] theorem cells52 : Try.prog.cellsOf 52 = Try.t52.size := by simp [Program.cellsOf]
@[simp] theorem size52 : Try.t52.size = 1 := _root_.id rfl
@[simp] theorem info53 : Try.prog.info? 53 = some Try.t53 := Try.type53
@[simp] theorem cells53 : Try.prog.cellsOf 53 = Try.t53.size := by simp [Program.cellsOf]
@[simp] theorem size53 : Try.t53.size = 1 := _root_.id rfl
@[simp] theorem info54 : Try.prog.info? 54 = some Try.t54 := Try.type54
@[simp] theorem cells54 : Try.prog.cellsOf 54 = Try.t54.size := by simp [Program.cellsOf]
@[simp] theorem size54 : Try.t54.size = 1 := _root_.id rfl
@[simp] theorem info55 : Try.prog.info? 55 = some Try.t55 := Try.type55
@[simp] theorem cells55 : Try.prog.cellsOf 55 = Try.t55.size := by simp [Program.cellsOf]
@[simp] theorem size55 : Try.t55.size = 1 := _root_.id rfl
@[simp] theorem info56 : Try.prog.info? 56 = some Try.t56 := Try.type56
@[simp] theorem cells56 : Try.prog.cellsOf 56 = Try.t56.size := by simp [Program.cellsOf]
@[simp] theorem size56 : Try.t56.size = 1 := _root_.id rfl
@[simp] theorem info57 : Try.prog.info? 57 = some Try.t57 := Try.type57
@[simp] theorem cells57 : Try.prog.cellsOf 57 = Try.t57.size := by simp [Program.cellsOf]
@[simp] theorem size57 : Try.t57.size = 1 := _root_.id rfl
@[simp] theorem info58 : Try.prog.info? 58 = some Try.t58 := Try.type58
@[simp] theorem cells58 : Try.prog.cellsOf 58 = Try.t58.size := by simp [Program.cellsOf]
@[simp] theorem size58 : Try.t58.size = 1 := _root_.id rfl
@[simp] theorem info59 : Try.prog.info? 59 = some Try.t59 := Try.type59
@[simp] theorem cells59 : Try.prog.cellsOf 59 = Try.t59.size := by simp [Program.cellsOf]
@[simp] theorem size59 : Try.t59.size = 1 := _root_.id rfl
@[simp] theorem info60 : Try.prog.info? 60 = some Try.t60 := Try.type60
@[simp] theorem cells60 : Try.prog.cellsOf 60 = Try.t60.size := by simp [Program.cellsOf]
@[simp] theorem size60 : Try.t60.size = 1 := _root_.id rfl
@[simp] theorem info61 : Try.prog.info? 61 = some Try.t61 := Try.type61
@[simp] theorem cells61 : Try.prog.cellsOf 61 = Try.t61.size := by simp [Program.cellsOf]
@[simp] theorem size61 : Try.t61.size = 1 := _root_.id rfl
@[simp] theorem info62 : Try.prog.info? 62 = some Try.t62 := Try.type62
@[simp] theorem cells62 : Try.prog.cellsOf 62 = Try.t62.size := by simp [Program.cellsOf]
@[simp] theorem size62 : Try.t62.size = 1 := _root_.id rfl
@[simp] theorem info63 : Try.prog.info? 63 = some Try.t63 := Try.type63
@[simp] theorem cells63 : Try.prog.cellsOf 63 = Try.t63.size := by simp [Program.cellsOf]
@[simp] theorem size63 : Try.t63.size = 1 := _root_.id rfl
@[simp] theorem info64 : Try.prog.info? 64 = some Try.t64 := Try.type64
@[simp] theorem cells64 : Try.prog.cellsOf 64 = Try.t64.size := by simp [Program.cellsOf]
@[simp] theorem size64 : Try.t64.size = 1 := _root_.id rfl
@[simp] theorem info65 : Try.prog.info? 65 = some Try.t65 := Try.type65
@[simp] theorem cells65 : Try.prog.cellsOf 65 = Try.t65.size := by simp [Program.cellsOf]
@[simp] theorem size65 : Try.t65.size = 1 := _root_.id rfl
@[simp] theorem info66 : Try.prog.info? 66 = some Try.t66 := Try.type66
@[simp] theorem cells66 : Try.prog.cellsOf 66 = Try.t66.size := by simp [Program.cellsOf]
@[simp] theorem size66 : Try.t66.size = 1 := _root_.id rfl
@[simp] theorem info67 : Try.prog.info? 67 = some Try.t67 := Try.type67
@[simp] theorem cells67 : Try.prog.cellsOf 67 = Try.t67.size := by simp [Program.cellsOf]
@[simp] theorem size67 : Try.t67.size = 1 := _root_.id rfl
@[simp] theorem info68 : Try.prog.info? 68 = some Try.t68 := Try.type68
@[simp] theorem cells68 : Try.prog.cellsOf 68 = Try.t68.size := by simp [Program.cellsOf]
@[simp] theorem size68 : Try.t68.size = 1 := _root_.id rfl
@[simp] theorem info69 : Try.prog.info? 69 = some Try.t69 := Try.type69
@[simp] theorem cells69 : Try.prog.cellsOf 69 = Try.t69.size := by simp [Program.cellsOf]
@[simp] theorem size69 : Try.t69.size = 1 := _root_.id rfl
@[simp] theorem info70 : Try.prog.info? 70 = some Try.t70 := Try.type70
@[simp] theorem cells70 : Try.prog.cellsOf 70 = Try.t70.size := by simp [Program.cellsOf]
@[simp] theorem size70 : Try.t70.size = 4 := _root_.id rfl
@[simp] theorem info71 : Try.prog.info? 71 = some Try.t71 := Try.type71
@[simp] theorem cells71 : Try.prog.cellsOf 71 = Try.t71.size := by simp [Program.cellsOf]
@[simp] theorem size71 : Try.t71.size = 4 := _root_.id rfl
@[simp] theorem info72 : Try.prog.info? 72 = some Try.t72 := Try.type72
@[simp] theorem cells72 : Try.prog.cellsOf 72 = Try.t72.size := by simp [Program.cellsOf]
@[simp] theorem size72 : Try.t72.size = 64 := _root_.id rfl
@[simp] theorem info73 : Try.prog.info? 73 = some Try.t73 := Try.type73
@[simp] theorem cells73 : Try.prog.cellsOf 73 = Try.t73.size := by simp [Program.cellsOf]
@[simp] theorem size73 : Try.t73.size = 1024 := _root_.id rfl
@[simp] theorem info74 : Try.prog.info? 74 = some Try.t74 := Try.type74
@[simp] theorem cells74 : Try.prog.cellsOf 74 = Try.t74.size := by simp [Program.cellsOf]
@[simp] theorem size74 : Try.t74.size = 16 := _root_.id rfl
@[simp] theorem info75 : Try.prog.info? 75 = some Try.t75 := Try.type75
@[simp] theorem cells75 : Try.prog.cellsOf 75 = Try.t75.size := by simp [Program.cellsOf]
@[simp] theorem size75 : Try.t75.size = 16 := _root_.id rfl
@[simp] theorem info76 : Try.prog.info? 76 = some Try.t76 := Try.type76
@[simp] theorem cells76 : Try.prog.cellsOf 76 = Try.t76.size := by simp [Program.cellsOf]
@[simp] theorem size76 : Try.t76.size = 1 := _root_.id rfl
@[simp] theorem info77 : Try.prog.info? 77 = some Try.t77 := Try.type77
@[simp] theorem cells77 : Try.prog.cellsOf 77 = Try.t77.size := by simp [Program.cellsOf]
@[simp] theorem size77 : Try.t77.size = 1066 := _root_.id rfl
@[simp] theorem info78 : Try.prog.info? 78 = some Try.t78 := Try.type78
@[simp] theorem cells78 : Try.prog.cellsOf 78 = Try.t78.size := by simp [Program.cellsOf]
@[simp] theorem size78 : Try.t78.size = 1066 := _root_.id rfl
@[simp] theorem info79 : Try.prog.info? 79 = some Try.t79 := Try.type79
@[simp] theorem cells79 : Try.prog.cellsOf 79 = Try.t79.size := by simp [Program.cellsOf]
@[simp] theorem size79 : Try.t79.size = 1 := _root_.id rfl
@[simp] theorem info80 : Try.prog.info? 80 = some Try.t80 := Try.type80
@[simp] theorem cells80 : Try.prog.cellsOf 80 = Try.t80.size := by simp [Program.cellsOf]
@[simp] theorem size80 : Try.t80.size = 1 := _root_.id rfl
@[simp] theorem info81 : Try.prog.info? 81 = some Try.t81 := Try.type81
@[simp] theorem cells81 : Try.prog.cellsOf 81 = Try.t81.size := by simp [Program.cellsOf]
@[simp] theorem size81 : Try.t81.size = 1 := _root_.id rfl
@[simp] theorem info82 : Try.prog.info? 82 = some Try.t82 := Try.type82
@[simp] theorem cells82 : Try.prog.cellsOf 82 = Try.t82.size := by simp [Program.cellsOf]
@[simp] theorem size82 : Try.t82.size = 6 := _root_.id rfl
@[simp] theorem info83 : Try.prog.info? 83 = some Try.t83 := Try.type83
@[simp] theorem cells83 : Try.prog.cellsOf 83 = Try.t83.size := by simp [Program.cellsOf]
@[simp] theorem size83 : Try.t83.size = 6 := _root_.id rfl
@[simp] theorem info84 : Try.prog.info? 84 = some Try.t84 := Try.type84
@[simp] theorem cells84 : Try.prog.cellsOf 84 = Try.t84.size := by simp [Program.cellsOf]
@[simp] theorem size84 : Try.t84.size = 1 := _root_.id rfl
@[simp] theorem info85 : Try.prog.info? 85 = some Try.t85 := Try.type85
@[simp] theorem cells85 : Try.prog.cellsOf 85 = Try.t85.size := by simp [Program.cellsOf]
@[simp] theorem size85 : Try.t85.size = 1 := _root_.id rfl
@[simp] theorem info86 : Try.prog.info? 86 = some Try.t86 := Try.type86
@[simp] theorem cells86 : Try.prog.cellsOf 86 = Try.t86.size := by simp [Program.cellsOf]
@[simp] theorem size86 : Try.t86.size = 1 := _root_.id rfl
@[simp] theorem info87 : Try.prog.info? 87 = some Try.t87 := Try.type87
@[simp] theorem cells87 : Try.prog.cellsOf 87 = Try.t87.size := by simp [Program.cellsOf]
@[simp] theorem size87 : Try.t87.size = 1 := _root_.id rfl
@[simp] theorem info88 : Try.prog.info? 88 = some Try.t88 := Try.type88
@[simp] theorem cells88 : Try.prog.cellsOf 88 = Try.t88.size := by simp [Program.cellsOf]
@[simp] theorem size88 : Try.t88.size = 1 := _root_.id rfl
@[simp] theorem info89 : Try.prog.info? 89 = some Try.t89 := Try.type89
@[simp] theorem cells89 : Try.prog.cellsOf 89 = Try.t89.size := by simp [Program.cellsOf]
@[simp] theorem size89 : Try.t89.size = 12 := _root_.id rfl
@[simp] theorem info90 : Try.prog.info? 90 = some Try.t90 := Try.type90
@[simp] theorem cells90 : Try.prog.cellsOf 90 = Try.t90.size := by simp [Program.cellsOf]
@[simp] theorem size90 : Try.t90.size = 12 := _root_.id rfl
@[simp] theorem info91 : Try.prog.info? 91 = some Try.t91 := Try.type91
@[simp] theorem cells91 : Try.prog.cellsOf 91 = Try.t91.size := by simp [Program.cellsOf]
@[simp] theorem size91 : Try.t91.size = 6 := _root_.id rfl
@[simp] theorem info92 : Try.prog.info? 92 = some Try.t92 := Try.type92
@[simp] theorem cells92 : Try.prog.cellsOf 92 = Try.t92.size := by simp [Program.cellsOf]
@[simp] theorem size92 : Try.t92.size = 6 := _root_.id rfl
@[simp] theorem info93 : Try.prog.info? 93 = some Try.t93 := Try.type93
@[simp] theorem cells93 : Try.prog.cellsOf 93 = Try.t93.size := by simp [Program.cellsOf]
@[simp] theorem size93 : Try.t93.size = 1 := _root_.id rfl
@[simp] theorem info94 : Try.prog.info? 94 = some Try.t94 := Try.type94
@[simp] theorem cells94 : Try.prog.cellsOf 94 = Try.t94.size := by simp [Program.cellsOf]
@[simp] theorem size94 : Try.t94.size = 1 := _root_.id rfl
@[simp] theorem info95 : Try.prog.info? 95 = some Try.t95 := Try.type95
@[simp] theorem cells95 : Try.prog.cellsOf 95 = Try.t95.size := by simp [Program.cellsOf]
@[simp] theorem size95 : Try.t95.size = 1 := _root_.id rfl
@[simp] theorem info96 : Try.prog.info? 96 = some Try.t96 := Try.type96
@[simp] theorem cells96 : Try.prog.cellsOf 96 = Try.t96.size := by simp [Program.cellsOf]
@[simp] theorem size96 : Try.t96.size = 1 := _root_.id rfl
@[simp] theorem info97 : Try.prog.info? 97 = some Try.t97 := Try.type97
@[simp] theorem cells97 : Try.prog.cellsOf 97 = Try.t97.size := by simp [Program.cellsOf]
@[simp] theorem size97 : Try.t97.size = 1 := _root_.id rfl
@[simp] theorem info98 : Try.prog.info? 98 = some Try.t98 := Try.type98
@[simp] theorem cells98 : Try.prog.cellsOf 98 = Try.t98.size := by simp [Program.cellsOf]
@[simp] theorem size98 : Try.t98.size = 1 := _root_.id rfl
@[simp] theorem info99 : Try.prog.info? 99 = some Try.t99 := Try.type99
@[simp] theorem cells99 : Try.prog.cellsOf 99 = Try.t99.size := by simp [Program.cellsOf]
@[simp] theorem size99 : Try.t99.size = 1 := _root_.id rfl
@[simp] theorem info100 : Try.prog.info? 100 = some Try.t100 := Try.type100
@[simp] theorem cells100 : Try.prog.cellsOf 100 = Try.t100.size := by simp [Program.cellsOf]
@[simp] theorem size100 : Try.t100.size = 1 := _root_.id rfl
@[simp] theorem info101 : Try.prog.info? 101 = some Try.t101 := Try.type101
@[simp] theorem cells101 : Try.prog.cellsOf 101 = Try.t101.size := by simp [Program.cellsOf]
@[simp] theorem size101 : Try.t101.size = 1 := _root_.id rfl
@[simp] theorem info102 : Try.prog.info? 102 = some Try.t102 := Try.type102
@[simp] theorem cells102 : Try.prog.cellsOf 102 = Try.t102.size := by simp [Program.cellsOf]
@[simp] theorem size102 : Try.t102.size = 1 := _root_.id rfl
@[simp] theorem info103 : Try.prog.info? 103 = some Try.t103 := Try.type103
@[simp] theorem cells103 : Try.prog.cellsOf 103 = Try.t103.size := by simp [Program.cellsOf]
@[simp] theorem size103 : Try.t103.size = 1 := _root_.id rfl
@[simp] theorem info104 : Try.prog.info? 104 = some Try.t104 := Try.type104
@[simp] theorem cells104 : Try.prog.cellsOf 104 = Try.t104.size := by simp [Program.cellsOf]
@[simp] theorem size104 : Try.t104.size = 1 := _root_.id rfl
@[simp] theorem info105 : Try.prog.info? 105 = some Try.t105 := Try.type105
@[simp] theorem cells105 : Try.prog.cellsOf 105 = Try.t105.size := by simp [Program.cellsOf]
@[simp] theorem size105 : Try.t105.size = 1 := _root_.id rfl
@[simp] theorem info106 : Try.prog.info? 106 = some Try.t106 := Try.type106
@[simp] theorem cells106 : Try.prog.cellsOf 106 = Try.t106.size := by simp [Program.cellsOf]
@[simp] theorem size106 : Try.t106.size = 1 := _root_.id rfl
@[simp] theorem info107 : Try.prog.info? 107 = some Try.t107 := Try.type107
@[simp] theorem cells107 : Try.prog.cellsOf 107 = Try.t107.size := by simp [Program.cellsOf]
@[simp] theorem size107 : Try.t107.size = 1 := _root_.id rfl
@[simp] theorem info108 : Try.prog.info? 108 = some Try.t108 := Try.type108
@[simp] theorem cells108 : Try.prog.cellsOf 108 = Try.t108.size := by simp [Program.cellsOf]
@[simp] theorem size108 : Try.t108.size = 4 := _root_.id rfl
@[simp] theorem info109 : Try.prog.info? 109 = some Try.t109 := Try.type109
@[simp] theorem cells109 : Try.prog.cellsOf 109 = Try.t109.size := by simp [Program.cellsOf]
@[simp] theorem size109 : Try.t109.size = 4 := _root_.id rfl
@[simp] theorem info110 : Try.prog.info? 110 = some Try.t110 := Try.type110
@[simp] theorem cells110 : Try.prog.cellsOf 110 = Try.t110.size := by simp [Program.cellsOf]
@[simp] theorem size110 : Try.t110.size = 0 := _root_.id rfl
@[simp] theorem info111 : Try.prog.info? 111 = some Try.t111 := Try.type111
@[simp] theorem cells111 : Try.prog.cellsOf 111 = Try.t111.size := by simp [Program.cellsOf]
@[simp] theorem size111 : Try.t111.size = 0 := _root_.id rfl
@[simp] theorem info112 : Try.prog.info? 112 = some Try.t112 := Try.type112
@[simp] theorem cells112 : Try.prog.cellsOf 112 = Try.t112.size := by simp [Program.cellsOf]
@[simp] theorem size112 : Try.t112.size = 0 := _root_.id rfl
@[simp] theorem info113 : Try.prog.info? 113 = some Try.t113 := Try.type113
@[simp] theorem cells113 : Try.prog.cellsOf 113 = Try.t113.size := by simp [Program.cellsOf]
@[simp] theorem size113 : Try.t113.size = 1 := _root_.id rfl
@[simp] theorem info114 : Try.prog.info? 114 = some Try.t114 := Try.type114
@[simp] theorem cells114 : Try.prog.cellsOf 114 = Try.t114.size := by simp [Program.cellsOf]
@[simp] theorem size114 : Try.t114.size = 1 := _root_.id rfl
@[simp] theorem info115 : Try.prog.info? 115 = some Try.t115 := Try.type115
@[simp] theorem cells115 : Try.prog.cellsOf 115 = Try.t115.size := by simp [Program.cellsOf]
@[simp] theorem size115 : Try.t115.size = 1 := _root_.id rfl
@[simp] theorem info116 : Try.prog.info? 116 = some Try.t116 := Try.type116
@[simp] theorem cells116 : Try.prog.cellsOf 116 = Try.t116.size := by simp [Program.cellsOf]
@[simp] theorem size116 : Try.t116.size = 1 := _root_.id rfl
@[simp] theorem info117 : Try.prog.info? 117 = some Try.t117 := Try.type117
@[simp] theorem cells117 : Try.prog.cellsOf 117 = Try.t117.size := by simp [Program.cellsOf]
@[simp] theorem size117 : Try.t117.size = 1 := _root_.id rfl
@[simp] theorem info118 : Try.prog.info? 118 = some Try.t118 := Try.type118
@[simp] theorem cells118 : Try.prog.cellsOf 118 = Try.t118.size := by simp [Program.cellsOf]
@[simp] theorem size118 : Try.t118.size = 1 := _root_.id rfl
@[simp] theorem info119 : Try.prog.info? 119 = some Try.t119 := Try.type119
@[simp] theorem cells119 : Try.prog.cellsOf 119 = Try.t119.size := by simp [Program.cellsOf]
@[simp] theorem size119 : Try.t119.size = 1 := _root_.id rfl
@[simp] theorem info120 : Try.prog.info? 120 = some Try.t120 := Try.type120
@[simp] theorem cells120 : Try.prog.cellsOf 120 = Try.t120.size := by simp [Program.cellsOf]
@[simp] theorem size120 : Try.t120.size = 11 := _root_.id rfl
@[simp] theorem info121 : Try.prog.info? 121 = some Try.t121 := Try.type121
@[simp] theorem cells121 : Try.prog.cellsOf 121 = Try.t121.size := by simp [Program.cellsOf]
@[simp] theorem size121 : Try.t121.size = 11 := _root_.id rfl
@[simp] theorem info122 : Try.prog.info? 122 = some Try.t122 := Try.type122
@[simp] theorem cells122 : Try.prog.cellsOf 122 = Try.t122.size := by simp [Program.cellsOf]
@[simp] theorem size122 : Try.t122.size = 1 := _root_.id rfl
@[simp] theorem zero1 : Try.t1.zero = some (.nilFunc) := _root_.id rfl
@[simp] theorem bytes1 : Try.t1.bytes = 8 := _root_.id rfl
@[simp] theorem zero2 : Try.t2.zero = some (.int .i64 (0)) := _root_.id rfl
@[simp] theorem bytes2 : Try.t2.bytes = 8 := _root_.id rfl
@[simp] theorem zero3 : Try.t3.zero = some (.int .i64 (0)) := _root_.id rfl
@[simp] theorem bytes3 : Try.t3.bytes = 8 := _root_.id rfl
@[simp] theorem zero4 : Try.t4.zero = some (.bool false) := _root_.id rfl
@[simp] theorem bytes4 : Try.t4.bytes = 1 := _root_.id rfl
@[simp] theorem zero5 : Try.t5.zero = some (.int .u8 (0)) := _root_.id rfl
@[simp] theorem bytes5 : Try.t5.bytes = 1 := _root_.id rfl
@[simp] theorem zero6 : Try.t6.zero = some (.int .u8 (0)) := _root_.id rfl
@[simp] theorem bytes6 : Try.t6.bytes = 1 := _root_.id rfl
@[simp] theorem zero7 : Try.t7.zero = some (.agg #[.int .i64 (0), .int .i64 (0), .bool false, .int .u8 (0)]) := _root_.id rfl
@[simp] theorem bytes7 : Try.t7.bytes = 24 := _root_.id rfl
@[simp] theorem zero8 : Try.t8.zero = some (.agg #[.int .i64 (0), .int .i64 (0), .bool false, .int .u8 (0)]) := _root_.id rfl
@[simp] theorem bytes8 : Try.t8.bytes = 24 := _root_.id rfl
@[simp] theorem zero9 : Try.t9.zero = some (.string (sB [])) := _root_.id rfl
@[simp] theorem bytes9 : Try.t9.bytes = 16 := _root_.id rfl
@[simp] theorem zero10 : Try.t10.zero = some (.string (sB [])) := _root_.id rfl
@[simp] theorem bytes10 : Try.t10.bytes = 16 := _root_.id rfl
@[simp] theorem zero11 : Try.t11.zero = some (.string (sB [])) := _root_.id rfl
@[simp] theorem bytes11 : Try.t11.bytes = 16 := _root_.id rfl
@[simp] theorem zero12 : Try.t12.zero = some (.int .u64 (0)) := _root_.id rfl
@[simp] theorem bytes12 : Try.t12.bytes = 8 := _root_.id rfl
@[simp] theorem zero13 : Try.t13.zero = some (.agg #[.string (sB []), .int .u64 (0)]) := _root_.id rfl
@[simp] theorem bytes13 : Try.t13.bytes = 24 := _root_.id rfl
@[simp] theorem zero14 : Try.t14.zero = some (.agg #[.string (sB []), .int .u64 (0)]) := _root_.id rfl
@[simp] theorem bytes14 : Try.t14.bytes = 24 := _root_.id rfl
@[simp] theorem zero15 : Try.t15.zero = some (.pointer none) := _root_.id rfl
@[simp] theorem bytes15 : Try.t15.bytes = 8 := _root_.id rfl
@[simp] theorem zero16 : Try.t16.zero = some (.pointer none) := _root_.id rfl
@[simp] theorem bytes16 : Try.t16.bytes = 8 := _root_.id rfl
@[simp] theorem zero17 : Try.t17.zero = some (.pointer none) := _root_.id rfl
@[simp] theorem bytes17 : Try.t17.bytes = 8 := _root_.id rfl
@[simp] theorem zero18 : Try.t18.zero = some (.agg #[.pointer none]) := _root_.id rfl
@[simp] theorem bytes18 : Try.t18.bytes = 8 := _root_.id rfl
@[simp] theorem zero19 : Try.t19.zero = some (.agg #[.pointer none]) := _root_.id rfl
@[simp] theorem bytes19 : Try.t19.bytes = 8 := _root_.id rfl
@[simp] theorem zero20 : Try.t20.zero = some (.nilIface) := _root_.id rfl
@[simp] theorem bytes20 : Try.t20.bytes = 16 := _root_.id rfl
@[simp] theorem zero21 : Try.t21.zero = some (.int .i32 (0)) := _root_.id rfl
@[simp] theorem bytes21 : Try.t21.bytes = 4 := _root_.id rfl
@[simp] theorem zero22 : Try.t22.zero = some (.slice none 0 0) := _root_.id rfl
@[simp] theorem bytes22 : Try.t22.bytes = 24 := _root_.id rfl
@[simp] theorem zero23 : Try.t23.zero = some (.nilFunc) := _root_.id rfl
@[simp] theorem bytes23 : Try.t23.bytes = 8 := _root_.id rfl
@[simp] theorem zero24 : Try.t24.zero = some (.nilFunc) := _root_.id rfl
@[simp] theorem bytes24 : Try.t24.bytes = 8 := _root_.id rfl
@[simp] theorem zero25 : Try.t25.zero = some (.pointer none) := _root_.id rfl
@[simp] theorem bytes25 : Try.t25.bytes = 8 := _root_.id rfl
@[simp] theorem zero26 : Try.t26.zero = some (.int .i64 (0)) := _root_.id rfl
@[simp] theorem bytes26 : Try.t26.bytes = 8 := _root_.id rfl
@[simp] theorem zero28 : Try.t28.zero = some (.nilFunc) := _root_.id rfl
@[simp] theorem bytes28 : Try.t28.bytes = 8 := _root_.id rfl
@[simp] theorem zero29 : Try.t29.zero = some (.slice none 0 0) := _root_.id rfl
@[simp] theorem bytes29 : Try.t29.bytes = 24 := _root_.id rfl
@[simp] theorem zero30 : Try.t30.zero = some (.slice none 0 0) := _root_.id rfl
@[simp] theorem bytes30 : Try.t30.bytes = 24 := _root_.id rfl
@[simp] theorem zero31 : Try.t31.zero = some (.agg #[.int .i64 (0), .int .i64 (0), .int .i64 (0), .int .i64 (0)]) := _root_.id rfl
@[simp] theorem bytes31 : Try.t31.bytes = 32 := _root_.id rfl
@[simp] theorem zero32 : Try.t32.zero = some (.agg #[.int .i64 (0), .int .i64 (0), .int .i64 (0), .int .i64 (0)]) := _root_.id rfl
@[simp] theorem bytes32 : Try.t32.bytes = 32 := _root_.id rfl
@[simp] theorem zero33 : Try.t33.zero = some (.agg #[.int .i64 (0), .int .i64 (0), .int .i64 (0), .int .i64 (0), .int .i64 (0), .int .i64 (0), .int .i64 (0), .int .i64 (0), .string (sB []), .slice none 0 0]) := _root_.id rfl
@[simp] theorem bytes33 : Try.t33.bytes = 104 := _root_.id rfl
@[simp] theorem zero34 : Try.t34.zero = some (.agg #[.int .i64 (0), .int .i64 (0), .int .i64 (0), .int .i64 (0), .int .i64 (0), .int .i64 (0), .int .i64 (0), .int .i64 (0), .string (sB []), .slice none 0 0]) := _root_.id rfl
@[simp] theorem bytes34 : Try.t34.bytes = 104 := _root_.id rfl
@[simp] theorem zero36 : Try.t36.zero = some (.nilFunc) := _root_.id rfl
@[simp] theorem bytes36 : Try.t36.bytes = 8 := _root_.id rfl
@[simp] theorem zero37 : Try.t37.zero = some (.nilFunc) := _root_.id rfl
@[simp] theorem bytes37 : Try.t37.bytes = 8 := _root_.id rfl
@[simp] theorem zero39 : Try.t39.zero = some (.nilFunc) := _root_.id rfl
@[simp] theorem bytes39 : Try.t39.bytes = 8 := _root_.id rfl
@[simp] theorem zero40 : Try.t40.zero = some (.agg #[.int .i64 (0), .int .i64 (0), .int .i64 (0), .int .i64 (0), .string (sB [])]) := _root_.id rfl
@[simp] theorem bytes40 : Try.t40.bytes = 48 := _root_.id rfl
@[simp] theorem zero41 : Try.t41.zero = some (.agg #[.int .i64 (0), .int .i64 (0), .int .i64 (0), .int .i64 (0), .string (sB [])]) := _root_.id rfl
@[simp] theorem bytes41 : Try.t41.bytes = 48 := _root_.id rfl
@[simp] theorem zero43 : Try.t43.zero = some (.nilFunc) := _root_.id rfl
@[simp] theorem bytes43 : Try.t43.bytes = 8 := _root_.id rfl
@[simp] theorem zero44 : Try.t44.zero = some (.nilFunc) := _root_.id rfl
@[simp] theorem bytes44 : Try.t44.bytes = 8 := _root_.id rfl
@[simp] theorem zero45 : Try.t45.zero = some (.nilFunc) := _root_.id rfl
@[simp] theorem bytes45 : Try.t45.bytes = 8 := _root_.id rfl
@[simp] theorem zero46 : Try.t46.zero = some (.map none) := _root_.id rfl
@[simp] theorem bytes46 : Try.t46.bytes = 8 := _root_.id rfl
@[simp] theorem zero47 : Try.t47.zero = some (.map none) := _root_.id rfl
@[simp] theorem bytes47 : Try.t47.bytes = 8 := _root_.id rfl
@[simp] theorem zero49 : Try.t49.zero = some (.nilFunc) := _root_.id rfl
@[simp] theorem bytes49 : Try.t49.bytes = 8 := _root_.id rfl
@[simp] theorem zero50 : Try.t50.zero = some (.nilFunc) := _root_.id rfl
@[simp] theorem bytes50 : Try.t50.bytes = 8 := _root_.id rfl
@[simp] theorem zero51 : Try.t51.zero = some (.nilFunc) := _root_.id rfl
@[simp] theorem bytes51 : Try.t51.bytes = 8 := _root_.id rfl
@[simp] theorem zero53 : Try.t53.zero = some (.nilFunc) := _root_.id rfl
@[simp] theorem bytes53 : Try.t53.bytes = 8 := _root_.id rfl
@[simp] theorem zero54 : Try.t54.zero = some (.pointer none) := _root_.id rfl
@[simp] theorem bytes54 : Try.t54.bytes = 8 := _root_.id rfl
@[simp] theorem zero56 : Try.t56.zero = some (.nilFunc) := _root_.id rfl
@[simp] theorem bytes56 : Try.t56.bytes = 8 := _root_.id rfl
@[simp] theorem zero57 : Try.t57.zero = some (.nilFunc) := _root_.id rfl
@[simp] theorem bytes57 : Try.t57.bytes = 8 := _root_.id rfl
@[simp] theorem zero58 : Try.t58.zero = some (.nilFunc) := _root_.id rfl
@[simp] theorem bytes58 : Try.t58.bytes = 8 := _root_.id rfl
@[simp] theorem zero59 : Try.t59.zero = some (.nilFunc) := _root_.id rfl
@[simp] theorem bytes59 : Try.t59.bytes = 8 := _root_.id rfl
@[simp] theorem zero60 : Try.t60.zero = some (.nilFunc) := _root_.id rfl
@[simp] theorem bytes60 : Try.t60.bytes = 8 := _root_.id rfl
@[simp] theorem zero61 : Try.t61.zero = some (.nilFunc) := _root_.id rfl
@[simp] theorem bytes61 : Try.t61.bytes = 8 := _root_.id rfl
@[simp] theorem zero62 : Try.t62.zero = some (.nilFunc) := _root_.id rfl
@[simp] theorem bytes62 : Try.t62.bytes = 8 := _root_.id rfl
@[simp] theorem zero63 : Try.t63.zero = some (.nilFunc) := _root_.id rfl
@[simp] theorem bytes63 : Try.t63.bytes = 8 := _root_.id rfl
@[simp] theorem zero65 : Try.t65.zero = some (.nilFunc) := _root_.id rfl
@[simp] theorem bytes65 : Try.t65.bytes = 8 := _root_.id rfl
@[simp] theorem zero66 : Try.t66.zero = some (.nilFunc) := _root_.id rfl
@[simp] theorem bytes66 : Try.t66.bytes = 8 := _root_.id rfl
@[simp] theorem zero67 : Try.t67.zero = some (.nilFunc) := _root_.id rfl
@[simp] theorem bytes67 : Try.t67.bytes = 8 := _root_.id rfl
@[simp] theorem zero68 : Try.t68.zero = some (.nilFunc) := _root_.id rfl
@[simp] theorem bytes68 : Try.t68.bytes = 8 := _root_.id rfl
@[simp] theorem zero69 : Try.t69.zero = some (.nilFunc) := _root_.id rfl
@[simp] theorem bytes69 : Try.t69.bytes = 8 := _root_.id rfl
@[simp] theorem zero70 : Try.t70.zero = some (.agg #[.int .i64 (0), .int .i64 (0), .int .i64 (0), .int .i64 (0)]) := _root_.id rfl
@[simp] theorem bytes70 : Try.t70.bytes = 32 := _root_.id rfl
@[simp] theorem zero71 : Try.t71.zero = some (.agg #[.int .i64 (0), .int .i64 (0), .int .i64 (0), .int .i64 (0)]) := _root_.id rfl
@[simp] theorem bytes71 : Try.t71.bytes = 32 := _root_.id rfl
@[simp] theorem zero72 : Try.t72.zero = some (.agg #[.int .i64 (0), .int .i64 (0), .int .i64 (0), .int .i64 (0), .int .i64 (0), .int .i64 (0), .int .i64 (0), .int .i64 (0), .int .i64 (0), .int .i64 (0), .int .i64 (0), .int .i64 (0), .int .i64 (0), .int .i64 (0), .int .i64 (0), .int .i64 (0), .int .i64 (0), .int .i64 (0), .int .i64 (0), .int .i64 (0), .int .i64 (0), .int .i64 (0), .int .i64 (0), .int .i64 (0), .int .i64 (0), .int .i64 (0), .int .i64 (0), .int .i64 (0), .int .i64 (0), .int .i64 (0), .int .i64 (0), .int .i64 (0), .int .i64 (0), .int .i64 (0), .int .i64 (0), .int .i64 (0), .int .i64 (0), .int .i64 (0), .int .i64 (0), .int .i64 (0), .int .i64 (0), .int .i64 (0), .int .i64 (0), .int .i64 (0), .int .i64 (0), .int .i64 (0), .int .i64 (0), .int .i64 (0), .int .i64 (0), .int .i64 (0), .int .i64 (0), .int .i64 (0), .int .i64 (0), .int .i64 (0), .int .i64 (0), .int .i64 (0), .int .i64 (0), .int .i64 (0), .int .i64 (0), .int .i64 (0), .int .i64 (0), .int .i64 (0), .int .i64 (0), .int .i64 (0)]) := _root_.id rfl
@[simp] theorem bytes72 : Try.t72.bytes = 512 := _root_.id rfl
@[simp] theorem zero73 : Try.t73.zero = some (.agg #[.int .i64 (0), .int .i64 (0), .int .i64 (0), .int .i64 (0), .int .i64 (0), .int .i64 (0), .int .i64 (0), .int .i64 (0), .int .i64 (0), .int .i64 (0), .int .i64 (0), .int .i64 (0), .int .i64 (0), .int .i64 (0), .int .i64 (0), .int .i64 (0), .int .i64 (0), .int .i64 (0), .int .i64 (0), .int .i64 (0), .int .i64 (0), .int .i64 (0), .int .i64 (0), .int .i64 (0), .int .i64 (0), .int .i64 (0), .int .i64 (0), .int .i64 (0), .int .i64 (0), .int .i64 (0), .int .i64 (0), .int .i64 (0), .int .i64 (0), .int .i64 (0), .int .i64 (0), .int .i64 (0), .int .i64 (0), .int .i64 (0), .int .i64 (0), .int .i64 (0), .int .i64 (0), .int .i64 (0), .int .i64 (0), .int .i64 (0), .int .i64 (0), .int .i64 (0), .int .i64 (0), .int .i64 (0), .int .i64 (0), .int .i64 (0), .int .i64 (0), .int .i64 (0), .int .i64 (0), .int .i64 (0), .int .i64 (0), .int .i64 (0), .int .i64 (0), .int .i64 (0), .int .i64 (0), .int .i64 (0), .int .i64 (0), .int .i64 (0), .int .i64 (0), .int .i64 (0), .int .i64 (0), .int .i64 (0), .int .i64 (0), .int .i64 (0), .int .i64 (0), .int .i64 (0), .int .i64 (0), .int .i64 (0), .int .i64 (0), .int .i64 (0), .int .i64 (0), .int .i64 (0), .int .i64 (0), .int .i64 (0), .int .i64 (0), .int .i64 (0), .int .i64 (0), .int .i64 (0), .int .i64 (0), .int .i64 (0), .int .i64 (0), .int .i64 (0), .int .i64 (0), .int .i64 (0), .int .i64 (0), .int .i64 (0), .int .i64 (0), .int .i64 (0), .int .i64 (0), .int .i64 (0), .int .i64 (0), .int .i64 (0), .int .i64 (0), .int .i64 (0), .int .i64 (0), .int .i64 (0), .int .i64 (0), .int .i64 (0), .int .i64 (0), .int .i64 (0), .int .i64 (0), .int .i64 (0), .int .i64 (0), .int .i64 (0), .int .i64 (0), .int .i64 (0), .int .i64 (0), .int .i64 (0), .int .i64 (0), .int .i64 (0), .int .i64 (0), .int .i64 (0), .int .i64 (0), .int .i64 (0), .int .i64 (0), .int .i64 (0), .int .i64 (0), .int .i64 (0), .int .i64 (0), .int .i64 (0), .int .i64 (0), .int .i64 (0), .int .i64 (0), .int .i64 (0), .int .i64 (0), .int .i64 (0), .int .i64 (0), .int .i64 (0), .int .i64 (0), .int .i64 (0), .int .i64 (0), .int .i64 (0), .int .i64 (0), .int .i64 (0), .int .i64 (0), .int .i64 (0), .int .i64 (0), .int .i64 (0), .int .i64 (0), .int .i64 (0), .int .i64 (0), .int .i64 (0), .int .i64 (0), .int .i64 (0), .int .i64 (0), .int .i64 (0), .int .i64 (0), .int .i64 (0), .int .i64 (0), .int .i64 (0), .int .i64 (0), .int .i64 (0), .int .i64 (0), .int .i64 (0), .int .i64 (0), .int .i64 (0), .int .i64 (0), .int .i64 (0), .int .i64 (0), .int .i64 (0), .int .i64 (0), .int .i64 (0), .int .i64 (0), .int .i64 (0), .int .i64 (0), .int .i64 (0), .int .i64 (0), .int .i64 (0), .int .i64 (0), .int .i64 (0), .int .i64 (0), .int .i64 (0), .int .i64 (0), .int .i64 (0), .int .i64 (0), .int .i64 (0), .int .i64 (0), .int .i64 (0), .int .i64 (0), .int .i64 (0), .int .i64 (0), .int .i64 (0), .int .i64 (0), .int .i64 (0), .int .i64 (0), .int .i64 (0), .int .i64 (0), .int .i64 (0), .int .i64 (0), .int .i64 (0), .int .i64 (0), .int .i64 (0), .int .i64 (0), .int .i64 (0), .int .i64 (0), .int .i64 (0), .int .i64 (0), .int .i64 (0), .int .i64 (0), .int .i64 (0), .int .i64 (0), .int .i64 (0), .int .i64 (0), .int .i64 (0), .int .i64 (0), .int .i64 (0), .int .i64 (0), .int .i64 (0), .int .i64 (0), .int .i64 (0), .int .i64 (0), .int .i64 (0), .int .i64 (0), .int .i64 (0), .int .i64 (0), .int .i64 (0), .int .i64 (0), .int .i64 (0), .int .i64 (0), .int .i64 (0), .int .i64 (0), .int .i64 (0), .int .i64 (0), .int .i64 (0), .int .i64 (0), .int .i64 (0), .int .i64 (0), .int .i64 (0), .int .i64 (0), .int .i64 (0), .int .i64 (0), .int .i64 (0), .int .i64 (0), .int .i64 (0), .int .i64 (0), .int .i64 (0), .int .i64 (0), .int .i64 (0), .int .i64 (0), .int .i64 (0), .int .i64 (0), .int .i64 (0), .int .i64 (0), .int .i64 (0), .int .i64 (0), .int .i64 (0), .int .i64 (0), .int .i64 (0), .int .i64 (0), .int .i64 (0), .int .i64 (0), .int .i64 (0), .int .i64 (0), .int .i64 (0), .int .i64 (0), .int .i64 (0), .int .i64 (0), .int .i64 (0), .int .i64 (0), .int .i64 (0), .int .i64 (0), .int .i64 (0), .int .i64 (0), .int .i64 (0), .int .i64 (0), .int .i64 (0), .int .i64 (0), .int .i64 (0), .int .i64 (0), .int .i64 (0), .int .i64 (0), .int .i64 (0), .int .i64 (0), .int .i64 (0), .int .i64 (0), .int .i64 (0), .int .i64 (0), .int .i64 (0), .int .i64 (0), .int .i64 (0), .int .i64 (0), .int .i64 (0), .int .i64 (0), .int .i64 (0), .int .i64 (0), .int .i64 (0), .int .i64 (0), .int .i64 (0), .int .i64 (0), .int .i64 (0), .int .i64 (0), .int .i64 (0), .int .i64 (0), .int .i64 (0), .int .i64 (0), .int .i64 (0), .int .i64 (0), .int .i64 (0), .int .i64 (0), .int .i64 (0), .int .i64 (0), .int .i64 (0), .int .i64 (0), .int .i64 (0), .int .i64 (0), .int .i64 (0), .int .i64 (0), .int .i64 (0), .int .i64 (0), .int .i64 (0), .int .i64 (0), .int .i64 (0), .int .i64 (0), .int .i64 (0), .int .i64 (0), .int .i64 (0), .int .i64 (0), .int .i64 (0), .int .i64 (0), .int .i64 (0), .int .i64 (0), .int .i64 (0), .int .i64 (0), .int .i64 (0), .int .i64 (0), .int .i64 (0), .int .i64 (0), .int .i64 (0), .int .i64 (0), .int .i64 (0), .int .i64 (0), .int .i64 (0), .int .i64 (0), .int .i64 (0), .int .i64 (0), .int .i64 (0), .int .i64 (0), .int .i64 (0), .int .i64 (0), .int .i64 (0), .int .i64 (0), .int .i64 (0), .int .i64 (0), .int .i64 (0), .int .i64 (0), .int .i64 (0), .int .i64 (0), .int .i64 (0), .int .i64 (0), .int .i64 (0), .int .i64 (0), .int .i64 (0), .int .i64 (0), .int .i64 (0), .int .i64 (0), .int .i64 (0), .int .i64 (0), .int .i64 (0), .int .i64 (0), .int .i64 (0), .int .i64 (0), .int .i64 (0), .int .i64 (0), .int .i64 (0), .int .i64 (0), .int .i64 (0), .int .i64 (0), .int .i64 (0), .int .i64 (0), .int .i64 (0), .int .i64 (0), .int .i64 (0), .int .i64 (0), .int .i64 (0), .int .i64 (0), .int .i64 (0), .int .i64 (0), .int .i64 (0), .int .i64 (0), .int .i64 (0), .int .i64 (0), .int .i64 (0), .int .i64 (0), .int .i64 (0), .int .i64 (0), .int .i64 (0), .int .i64 (0), .int .i64 (0), .int .i64 (0), .int .i64 (0), .int .i64 (0), .int .i64 (0), .int .i64 (0), .int .i64 (0), .int .i64 (0), .int .i64 (0), .int .i64 (0), .int .i64 (0), .int .i64 (0), .int .i64 (0), .int .i64 (0), .int .i64 (0), .int .i64 (0), .int .i64 (0), .int .i64 (0), .int .i64 (0), .int .i64 (0), .int .i64 (0), .int .i64 (0), .int .i64 (0), .int .i64 (0), .int .i64 (0), .int .i64 (0), .int .i64 (0), .int .i64 (0), .int .i64 (0), .int .i64 (0), .int .i64 (0), .int .i64 (0), .int .i64 (0), .int .i64 (0), .int .i64 (0), .int .i64 (0), .int .i64 (0), .int .i64 (0), .int .i64 (0), .int .i64 (0), .int .i64 (0), .int .i64 (0), .int .i64 (0), .int .i64 (0), .int .i64 (0), .int .i64 (0), .int .i64 (0), .int .i64 (0), .int .i64 (0), .int .i64 (0), .int .i64 (0), .int .i64 (0), .int .i64 (0), .int .i64 (0), .int .i64 (0), .int .i64 (0), .int .i64 (0), .int .i64 (0), .int .i64 (0), .int .i64 (0), .int .i64 (0), .int .i64 (0), .int .i64 (0), .int .i64 (0), .int .i64 (0), .int .i64 (0), .int .i64 (0), .int .i64 (0), .int .i64 (0), .int .i64 (0), .int .i64 (0), .int .i64 (0), .int .i64 (0), .int .i64 (0), .int .i64 (0), .int .i64 (0), .int .i64 (0), .int .i64 (0), .int .i64 (0), .int .i64 (0), .int .i64 (0), .int .i64 (0), .int .i64 (0), .int .i64 (0), .int .i64 (0), .int .i64 (0), .int .i64 (0), .int .i64 (0), .int .i64 (0), .int .i64 (0), .int .i64 (0), .int .i64 (0), .int .i64 (0), .int .i64 (0), .int .i64 (0), .int .i64 (0), .int .i64 (0), .int .i64 (0), .int .i64 (0), .int .i64 (0), .int .i64 (0), .int .i64 (0), .int .i64 (0), .int .i64 (0), .int .i64 (0), .int .i64 (0), .int .i64 (0), .int .i64 (0), .int .i64 (0), .int .i64 (0), .int .i64 (0), .int .i64 (0), .int .i64 (0), .int .i64 (0), .int .i64 (0), .int .i64 (0), .int .i64 (0), .int .i64 (0), .int .i64 (0), .int .i64 (0), .int .i64 (0), .int .i64 (0), .int .i64 (0), .int .i64 (0), .int .i64 (0), .int .i64 (0), .int .i64 (0), .int .i64 (0), .int .i64 (0), .int .i64 (0), .int .i64 (0), .int .i64 (0), .int .i64 (0), .int .i64 (0), .int .i64 (0), .int .i64 (0), .int .i64 (0), .int .i64 (0), .int .i64 (0), .int .i64 (0), .int .i64 (0), .int .i64 (0), .int .i64 (0), .int .i64 (0), .int .i64 (0), .int .i64 (0), .int .i64 (0), .int .i64 (0), .int .i64 (0), .int .i64 (0), .int .i64 (0), .int .i64 (0), .int .i64 (0), .int .i64 (0), .int .i64 (0), .int .i64 (0), .int .i64 (0), .int .i64 (0), .int .i64 (0), .int .i64 (0), .int .i64 (0), .int .i64 (0), .int .i64 (0), .int .i64 (0), .int .i64 (0), .int .i64 (0), .int .i64 (0), .int .i64 (0), .int .i64 (0), .int .i64 (0), .int .i64 (0), .int .i64 (0), .int .i64 (0), .int .i64 (0), .int .i64 (0), .int .i64 (0), .int .i64 (0), .int .i64 (0), .int .i64 (0), .int .i64 (0), .int .i64 (0), .int .i64 (0), .int .i64 (0), .int .i64 (0), .int .i64 (0), .int .i64 (0), .int .i64 (0), .int .i64 (0), .int .i64 (0), .int .i64 (0), .int .i64 (0), .int .i64 (0), .int .i64 (0), .int .i64 (0), .int .i64 (0), .int .i64 (0), .int .i64 (0), .int .i64 (0), .int .i64 (0), .int .i64 (0), .int .i64 (0), .int .i64 (0), .int .i64 (0), .int .i64 (0), .int .i64 (0), .int .i64 (0), .int .i64 (0), .int .i64 (0), .int .i64 (0), .int .i64 (0), .int .i64 (0), .int .i64 (0), .int .i64 (0), .int .i64 (0), .int .i64 (0), .int .i64 (0), .int .i64 (0), .int .i64 (0), .int .i64 (0), .int .i64 (0), .int .i64 (0), .int .i64 (0), .int .i64 (0), .int .i64 (0), .int .i64 (0), .int .i64 (0), .int .i64 (0), .int .i64 (0), .int .i64 (0), .int .i64 (0), .int .i64 (0), .int .i64 (0), .int .i64 (0), .int .i64 (0), .int .i64 (0), .int .i64 (0), .int .i64 (0), .int .i64 (0), .int .i64 (0), .int .i64 (0), .int .i64 (0), .int .i64 (0), .int .i64 (0), .int .i64 (0), .int .i64 (0), .int .i64 (0), .int .i64 (0), .int .i64 (0), .int .i64 (0), .int .i64 (0), .int .i64 (0), .int .i64 (0), .int .i64 (0), .int .i64 (0), .int .i64 (0), .int .i64 (0), .int .i64 (0), .int .i64 (0), .int .i64 (0), .int .i64 (0), .int .i64 (0), .int .i64 (0), .int .i64 (0), .int .i64 (0), .int .i64 (0), .int .i64 (0), .int .i64 (0), .int .i64 (0), .int .i64 (0), .int .i64 (0), .int .i64 (0), .int .i64 (0), .int .i64 (0), .int .i64 (0), .int .i64 (0), .int .i64 (0), .int .i64 (0), .int .i64 (0), .int .i64 (0), .int .i64 (0), .int .i64 (0), .int .i64 (0), .int .i64 (0), .int .i64 (0), .int .i64 (0), .int .i64 (0), .int .i64 (0), .int .i64 (0), .int .i64 (0), .int .i64 (0), .int .i64 (0), .int .i64 (0), .int .i64 (0), .int .i64 (0), .int .i64 (0), .int .i64 (0), .int .i64 (0), .int .i64 (0), .int .i64 (0), .int .i64 (0), .int .i64 (0), .int .i64 (0), .int .i64 (0), .int .i64 (0), .int .i64 (0), .int .i64 (0), .int .i64 (0), .int .i64 (0), .int .i64 (0), .int .i64 (0), .int .i64 (0), .int .i64 (0), .int .i64 (0), .int .i64 (0), .int .i64 (0), .int .i64 (0), .int .i64 (0), .int .i64 (0), .int .i64 (0), .int .i64 (0), .int .i64 (0), .int .i64 (0), .int .i64 (0), .int .i64 (0), .int .i64 (0), .int .i64 (0), .int .i64 (0), .int .i64 (0), .int .i64 (0), .int .i64 (0), .int .i64 (0), .int .i64 (0), .int .i64 (0), .int .i64 (0), .int .i64 (0), .int .i64 (0), .int .i64 (0), .int .i64 (0), .int .i64 (0), .int .i64 (0), .int .i64 (0), .int .i64 (0), .int .i64 (0), .int .i64 (0), .int .i64 (0), .int .i64 (0), .int .i64 (0), .int .i64 (0), .int .i64 (0), .int .i64 (0), .int .i64 (0), .int .i64 (0), .int .i64 (0), .int .i64 (0), .int .i64 (0), .int .i64 (0), .int .i64 (0), .int .i64 (0), .int .i64 (0), .int .i64 (0), .int .i64 (0), .int .i64 (0), .int .i64 (0), .int .i64 (0), .int .i64 (0), .int .i64 (0), .int .i64 (0), .int .i64 (0), .int .i64 (0), .int .i64 (0), .int .i64 (0), .int .i64 (0), .int .i64 (0), .int .i64 (0), .int .i64 (0), .int .i64 (0), .int .i64 (0), .int .i64 (0), .int .i64 (0), .int .i64 (0), .int .i64 (0), .int .i64 (0), .int .i64 (0), .int .i64 (0), .int .i64 (0), .int .i64 (0), .int .i64 (0), .int .i64 (0), .int .i64 (0), .int .i64 (0), .int .i64 (0), .int .i64 (0), .int .i64 (0), .int .i64 (0), .int .i64 (0), .int .i64 (0), .int .i64 (0), .int .i64 (0), .int .i64 (0), .int .i64 (0), .int .i64 (0), .int .i64 (0), .int .i64 (0), .int .i64 (0), .int .i64 (0), .int .i64 (0), .int .i64 (0), .int .i64 (0), .int .i64 (0), .int .i64 (0), .int .i64 (0), .int .i64 (0), .int .i64 (0), .int .i64 (0), .int .i64 (0), .int .i64 (0), .int .i64 (0), .int .i64 (0), .int .i64 (0), .int .i64 (0), .int .i64 (0), .int .i64 (0), .int .i64 (0), .int .i64 (0), .int .i64 (0), .int .i64 (0), .int .i64 (0), .int .i64 (0), .int .i64 (0), .int .i64 (0), .int .i64 (0), .int .i64 (0), .int .i64 (0), .int .i64 (0), .int .i64 (0), .int .i64 (0), .int .i64 (0), .int .i64 (0), .int .i64 (0), .int .i64 (0), .int .i64 (0), .int .i64 (0), .int .i64 (0), .int .i64 (0), .int .i64 (0), .int .i64 (0), .int .i64 (0), .int .i64 (0), .int .i64 (0), .int .i64 (0), .int .i64 (0), .int .i64 (0), .int .i64 (0), .int .i64 (0), .int .i64 (0), .int .i64 (0), .int .i64 (0), .int .i64 (0), .int .i64 (0), .int .i64 (0), .int .i64 (0), .int .i64 (0), .int .i64 (0), .int .i64 (0), .int .i64 (0), .int .i64 (0), .int .i64 (0), .int .i64 (0), .int .i64 (0), .int .i64 (0), .int .i64 (0), .int .i64 (0), .int .i64 (0), .int .i64 (0), .int .i64 (0), .int .i64 (0), .int .i64 (0), .int .i64 (0), .int .i64 (0), .int .i64 (0), .int .i64 (0), .int .i64 (0), .int .i64 (0), .int .i64 (0), .int .i64 (0), .int .i64 (0), .int .i64 (0), .int .i64 (0), .int .i64 (0), .int .i64 (0), .int .i64 (0), .int .i64 (0), .int .i64 (0), .int .i64 (0), .int .i64 (0), .int .i64 (0), .int .i64 (0), .int .i64 (0), .int .i64 (0), .int .i64 (0), .int .i64 (0), .int .i64 (0), .int .i64 (0), .int .i64 (0), .int .i64 (0), .int .i64 (0), .int .i64 (0), .int .i64 (0), .int .i64 (0), .int .i64 (0), .int .i64 (0), .int .i64 (0), .int .i64 (0), .int .i64 (0), .int .i64 (0), .int .i64 (0), .int .i64 (0), .int .i64 (0), .int .i64 (0), .int .i64 (0), .int .i64 (0), .int .i64 (0), .int .i64 (0), .int .i64 (0), .int .i64 (0), .int .i64 (0), .int .i64 (0), .int .i64 (0), .int .i64 (0), .int .i64 (0), .int .i64 (0), .int .i64 (0), .int .i64 (0), .int .i64 (0), .int .i64 (0), .int .i64 (0), .int .i64 (0), .int .i64 (0), .int .i64 (0), .int .i64 (0), .int .i64 (0), .int .i64 (0), .int .i64 (0), .int .i64 (0), .int .i64 (0), .int .i64 (0), .int .i64 (0), .int .i64 (0), .int .i64 (0), .int .i64 (0), .int .i64 (0), .int .i64 (0), .int .i64 (0), .int .i64 (0), .int .i64 (0), .int .i64 (0), .int .i64 (0), .int .i64 (0), .int .i64 (0), .int .i64 (0), .int .i64 (0), .int .i64 (0), .int .i64 (0), .int .i64 (0), .int .i64 (0), .int .i64 (0), .int .i64 (0), .int .i64 (0), .int .i64 (0), .int .i64 (0), .int .i64 (0), .int .i64 (0), .int .i64 (0), .int .i64 (0), .int .i64 (0), .int .i64 (0), .int .i64 (0), .int .i64 (0), .int .i64 (0), .int .i64 (0), .int .i64 (0), .int .i64 (0), .int .i64 (0), .int .i64 (0), .int .i64 (0), .int .i64 (0), .int .i64 (0), .int .i64 (0), .int .i64 (0), .int .i64 (0), .int .i64 (0), .int .i64 (0), .int .i64 (0), .int .i64 (0), .int .i64 (0), .int .i64 (0), .int .i64 (0), .int .i64 (0), .int .i64 (0), .int .i64 (0), .int .i64 (0), .int .i64 (0), .int .i64 (0), .int .i64 (0), .int .i64 (0), .int .i64 (0), .int .i64 (0), .int .i64 (0), .int .i64 (0), .int .i64 (0), .int .i64 (0), .int .i64 (0), .int .i64 (0), .int .i64 (0), .int .i64 (0), .int .i64 (0), .int .i64 (0), .int .i64 (0), .int .i64 (0), .int .i64 (0), .int .i64 (0), .int .i64 (0), .int .i64 (0), .int .i64 (0), .int .i64 (0), .int .i64 (0), .int .i64 (0), .int .i64 (0), .int .i64 (0), .int .i64 (0), .int .i64 (0), .int .i64 (0), .int .i64 (0)]) := _root_.id rfl
@[simp] theorem bytes73 : Try.t73.bytes = 8192 := _root_.id rfl
@[simp] theorem zero74 : Try.t74.zero = some (.agg #[.int .i64 (0), .int .i64 (0), .int .i64 (0), .int .i64 (0), .int .i64 (0), .int .i64 (0), .int .i64 (0), .int .i64 (0), .int .i64 (0), .int .i64 (0), .int .i64 (0), .int .i64 (0), .int .i64 (0), .int .i64 (0), .int .i64 (0), .int .i64 (0)]) := _root_.id rfl
@[simp] theorem bytes74 : Try.t74.bytes = 128 := _root_.id rfl
@[simp] theorem zero75 : Try.t75.zero = some (.agg #[.bool false, .bool false, .bool false, .bool false, .bool false, .bool false, .bool false, .bool false, .bool false, .bool false, .bool false, .bool false, .bool false, .bool false, .bool false, .bool false]) := _root_.id rfl
@[simp] theorem bytes75 : Try.t75.bytes = 16 := _root_.id rfl
@[simp] theorem zero76 : Try.t76.zero = some (.slice none 0 0) := _root_.id rfl
@[simp] theorem bytes76 : Try.t76.bytes = 24 := _root_.id rfl
@[simp] theorem zero77 : Try.t77.zero = some (.agg #[.int .i64 (0), .int .i64 (0), .int .i64 (0), .int .i64 (0), .int .i64 (0), .slice none 0 0, .int .i64 (0), .int .i64 (0), .int .i64 (0), .int .i64 (0), .int .i64 (0), .int .i64 (0), .int .i64 (0), .int .i64 (0), .int .i64 (0), .int .i64 (0), .int .i64 (0), .int .i64 (0), .int .i64 (0), .int .i64 (0), .int .i64 (0), .int .i64 (0), .int .i64 (0), .int .i64 (0), .int .i64 (0), .int .i64 (0), .int .i64 (0), .int .i64 (0), .int .i64 (0), .int .i64 (0), .int .i64 (0), .int .i64 (0), .int .i64 (0), .int .i64 (0), .int .i64 (0), .int .i64 (0), .int .i64 (0), .int .i64 (0), .int .i64 (0), .int .i64 (0), .int .i64 (0), .int .i64 (0), .int .i64 (0), .int .i64 (0), .int .i64 (0), .int .i64 (0), .int .i64 (0), .int .i64 (0), .int .i64 (0), .int .i64 (0), .int .i64 (0), .int .i64 (0), .int .i64 (0), .int .i64 (0), .int .i64 (0), .int .i64 (0), .int .i64 (0), .int .i64 (0), .int .i64 (0), .int .i64 (0), .int .i64 (0), .int .i64 (0), .int .i64 (0), .int .i64 (0), .int .i64 (0), .int .i64 (0), .int .i64 (0), .int .i64 (0), .int .i64 (0), .int .i64 (0), .int .i64 (0), .int .i64 (0), .int .i64 (0), .int .i64 (0), .int .i64 (0), .int .i64 (0), .int .i64 (0), .int .i64 (0), .int .i64 (0), .int .i64 (0), .int .i64 (0), .int .i64 (0), .int .i64 (0), .int .i64 (0), .int .i64 (0), .int .i64 (0), .int .i64 (0), .int .i64 (0), .int .i64 (0), .int .i64 (0), .int .i64 (0), .int .i64 (0), .int .i64 (0), .int .i64 (0), .int .i64 (0), .int .i64 (0), .int .i64 (0), .int .i64 (0), .int .i64 (0), .int .i64 (0), .int .i64 (0), .int .i64 (0), .int .i64 (0), .int .i64 (0), .int .i64 (0), .int .i64 (0), .int .i64 (0), .int .i64 (0), .int .i64 (0), .int .i64 (0), .int .i64 (0), .int .i64 (0), .int .i64 (0), .int .i64 (0), .int .i64 (0), .int .i64 (0), .int .i64 (0), .int .i64 (0), .int .i64 (0), .int .i64 (0), .int .i64 (0), .int .i64 (0), .int .i64 (0), .int .i64 (0), .int .i64 (0), .int .i64 (0), .int .i64 (0), .int .i64 (0), .int .i64 (0), .int .i64 (0), .int .i64 (0), .int .i64 (0), .int .i64 (0), .int .i64 (0), .int .i64 (0), .int .i64 (0), .int .i64 (0), .int .i64 (0), .int .i64 (0), .int .i64 (0), .int .i64 (0), .int .i64 (0), .int .i64 (0), .int .i64 (0), .int .i64 (0), .int .i64 (0), .int .i64 (0), .int .i64 (0), .int .i64 (0), .int .i64 (0), .int .i64 (0), .int .i64 (0), .int .i64 (0), .int .i64 (0), .int .i64 (0), .int .i64 (0), .int .i64 (0), .int .i64 (0), .int .i64 (0), .int .i64 (0), .int .i64 (0), .int .i64 (0), .int .i64 (0), .int .i64 (0), .int .i64 (0), .int .i64 (0), .int .i64 (0), .int .i64 (0), .int .i64 (0), .int .i64 (0), .int .i64 (0), .int .i64 (0), .int .i64 (0), .int .i64 (0), .int .i64 (0), .int .i64 (0), .int .i64 (0), .int .i64 (0), .int .i64 (0), .int .i64 (0), .int .i64 (0), .int .i64 (0), .int .i64 (0), .int .i64 (0), .int .i64 (0), .int .i64 (0), .int .i64 (0), .int .i64 (0), .int .i64 (0), .int .i64 (0), .int .i64 (0), .int .i64 (0), .int .i64 (0), .int .i64 (0), .int .i64 (0), .int .i64 (0), .int .i64 (0), .int .i64 (0), .int .i64 (0), .int .i64 (0), .int .i64 (0), .int .i64 (0), .int .i64 (0), .int .i64 (0), .int .i64 (0), .int .i64 (0), .int .i64 (0), .int .i64 (0), .int .i64 (0), .int .i64 (0), .int .i64 (0), .int .i64 (0), .int .i64 (0), .int .i64 (0), .int .i64 (0), .int .i64 (0), .int .i64 (0), .int .i64 (0), .int .i64 (0), .int .i64 (0), .int .i64 (0), .int .i64 (0), .int .i64 (0), .int .i64 (0), .int .i64 (0), .int .i64 (0), .int .i64 (0), .int .i64 (0), .int .i64 (0), .int .i64 (0), .int .i64 (0), .int .i64 (0), .int .i64 (0), .int .i64 (0), .int .i64 (0), .int .i64 (0), .int .i64 (0), .int .i64 (0), .int .i64 (0), .int .i64 (0), .int .i64 (0), .int .i64 (0), .int .i64 (0), .int .i64 (0), .int .i64 (0), .int .i64 (0), .int .i64 (0), .int .i64 (0), .int .i64 (0), .int .i64 (0), .int .i64 (0), .int .i64 (0), .int .i64 (0), .int .i64 (0), .int .i64 (0), .int .i64 (0), .int .i64 (0), .int .i64 (0), .int .i64 (0), .int .i64 (0), .int .i64 (0), .int .i64 (0), .int .i64 (0), .int .i64 (0), .int .i64 (0), .int .i64 (0), .int .i64 (0), .int .i64 (0), .int .i64 (0), .int .i64 (0), .int .i64 (0), .int .i64 (0), .int .i64 (0), .int .i64 (0), .int .i64 (0), .int .i64 (0), .int .i64 (0), .int .i64 (0), .int .i64 (0), .int .i64 (0), .int .i64 (0), .int .i64 (0), .int .i64 (0), .int .i64 (0), .int .i64 (0), .int .i64 (0), .int .i64 (0), .int .i64 (0), .int .i64 (0), .int .i64 (0), .int .i64 (0), .int .i64 (0), .int .i64 (0), .int .i64 (0), .int .i64 (0), .int .i64 (0), .int .i64 (0), .int .i64 (0), .int .i64 (0), .int .i64 (0), .int .i64 (0), .int .i64 (0), .int .i64 (0), .int .i64 (0), .int .i64 (0), .int .i64 (0), .int .i64 (0), .int .i64 (0), .int .i64 (0), .int .i64 (0), .int .i64 (0), .int .i64 (0), .int .i64 (0), .int .i64 (0), .int .i64 (0), .int .i64 (0), .int .i64 (0), .int .i64 (0), .int .i64 (0), .int .i64 (0), .int .i64 (0), .int .i64 (0), .int .i64 (0), .int .i64 (0), .int .i64 (0), .int .i64 (0), .int .i64 (0), .int .i64 (0), .int .i64 (0), .int .i64 (0), .int .i64 (0), .int .i64 (0), .int .i64 (0), .int .i64 (0), .int .i64 (0), .int .i64 (0), .int .i64 (0), .int .i64 (0), .int .i64 (0), .int .i64 (0), .int .i64 (0), .int .i64 (0), .int .i64 (0), .int .i64 (0), .int .i64 (0), .int .i64 (0), .int .i64 (0), .int .i64 (0), .int .i64 (0), .int .i64 (0), .int .i64 (0), .int .i64 (0), .int .i64 (0), .int .i64 (0), .int .i64 (0), .int .i64 (0), .int .i64 (0), .int .i64 (0), .int .i64 (0), .int .i64 (0), .int .i64 (0), .int .i64 (0), .int .i64 (0), .int .i64 (0), .int .i64 (0), .int .i64 (0), .int .i64 (0), .int .i64 (0), .int .i64 (0), .int .i64 (0), .int .i64 (0), .int .i64 (0), .int .i64 (0), .int .i64 (0), .int .i64 (0), .int .i64 (0), .int .i64 (0), .int .i64 (0), .int .i64 (0), .int .i64 (0), .int .i64 (0), .int .i64 (0), .int .i64 (0), .int .i64 (0), .int .i64 (0), .int .i64 (0), .int .i64 (0), .int .i64 (0), .int .i64 (0), .int .i64 (0), .int .i64 (0), .int .i64 (0), .int .i64 (0), .int .i64 (0), .int .i64 (0), .int .i64 (0), .int .i64 (0), .int .i64 (0), .int .i64 (0), .int .i64 (0), .int .i64 (0), .int .i64 (0), .int .i64 (0), .int .i64 (0), .int .i64 (0), .int .i64 (0), .int .i64 (0), .int .i64 (0), .int .i64 (0), .int .i64 (0), .int .i64 (0), .int .i64 (0), .int .i64 (0), .int .i64 (0), .int .i64 (0), .int .i64 (0), .int .i64 (0), .int .i64 (0), .int .i64 (0), .int .i64 (0), .int .i64 (0), .int .i64 (0), .int .i64 (0), .int .i64 (0), .int .i64 (0), .int .i64 (0), .int .i64 (0), .int .i64 (0), .int .i64 (0), .int .i64 (0), .int .i64 (0), .int .i64 (0), .int .i64 (0), .int .i64 (0), .int .i64 (0), .int .i64 (0), .int .i64 (0), .int .i64 (0), .int .i64 (0), .int .i64 (0), .int .i64 (0), .int .i64 (0), .int .i64 (0), .int .i64 (0), .int .i64 (0), .int .i64 (0), .int .i64 (0), .int .i64 (0), .int .i64 (0), .int .i64 (0), .int .i64 (0), .int .i64 (0), .int .i64 (0), .int .i64 (0), .int .i64 (0), .int .i64 (0), .int .i64 (0), .int .i64 (0), .int .i64 (0), .int .i64 (0), .int .i64 (0), .int .i64 (0), .int .i64 (0), .int .i64 (0), .int .i64 (0), .int .i64 (0), .int .i64 (0), .int .i64 (0), .int .i64 (0), .int .i64 (0), .int .i64 (0), .int .i64 (0), .int .i64 (0), .int .i64 (0), .int .i64 (0), .int .i64 (0), .int .i64 (0), .int .i64 (0), .int .i64 (0), .int .i64 (0), .int .i64 (0), .int .i64 (0), .int .i64 (0), .int .i64 (0), .int .i64 (0), .int .i64 (0), .int .i64 (0), .int .i64 (0), .int .i64 (0), .int .i64 (0), .int .i64 (0), .int .i64 (0), .int .i64 (0), .int .i64 (0), .int .i64 (0), .int .i64 (0), .int .i64 (0), .int .i64 (0), .int .i64 (0), .int .i64 (0), .int .i64 (0), .int .i64 (0), .int .i64 (0), .int .i64 (0), .int .i64 (0), .int .i64 (0), .int .i64 (0), .int .i64 (0), .int .i64 (0), .int .i64 (0), .int .i64 (0), .int .i64 (0), .int .i64 (0), .int .i64 (0), .int .i64 (0), .int .i64 (0), .int .i64 (0), .int .i64 (0), .int .i64 (0), .int .i64 (0), .int .i64 (0), .int .i64 (0), .int .i64 (0), .int .i64 (0), .int .i64 (0), .int .i64 (0), .int .i64 (0), .int .i64 (0), .int .i64 (0), .int .i64 (0), .int .i64 (0), .int .i64 (0), .int .i64 (0), .int .i64 (0), .int .i64 (0), .int .i64 (0), .int .i64 (0), .int .i64 (0), .int .i64 (0), .int .i64 (0), .int .i64 (0), .int .i64 (0), .int .i64 (0), .int .i64 (0), .int .i64 (0), .int .i64 (0), .int .i64 (0), .int .i64 (0), .int .i64 (0), .int .i64 (0), .int .i64 (0), .int .i64 (0), .int .i64 (0), .int .i64 (0), .int .i64 (0), .int .i64 (0), .int .i64 (0), .int .i64 (0), .int .i64 (0), .int .i64 (0), .int .i64 (0), .int .i64 (0), .int .i64 (0), .int .i64 (0), .int .i64 (0), .int .i64 (0), .int .i64 (0), .int .i64 (0), .int .i64 (0), .int .i64 (0), .int .i64 (0), .int .i64 (0), .int .i64 (0), .int .i64 (0), .int .i64 (0), .int .i64 (0), .int .i64 (0), .int .i64 (0), .int .i64 (0), .int .i64 (0), .int .i64 (0), .int .i64 (0), .int .i64 (0), .int .i64 (0), .int .i64 (0), .int .i64 (0), .int .i64 (0), .int .i64 (0), .int .i64 (0), .int .i64 (0), .int .i64 (0), .int .i64 (0), .int .i64 (0), .int .i64 (0), .int .i64 (0), .int .i64 (0), .int .i64 (0), .int .i64 (0), .int .i64 (0), .int .i64 (0), .int .i64 (0), .int .i64 (0), .int .i64 (0), .int .i64 (0), .int .i64 (0), .int .i64 (0), .int .i64 (0), .int .i64 (0), .int .i64 (0), .int .i64 (0), .int .i64 (0), .int .i64 (0), .int .i64 (0), .int .i64 (0), .int .i64 (0), .int .i64 (0), .int .i64 (0), .int .i64 (0), .int .i64 (0), .int .i64 (0), .int .i64 (0), .int .i64 (0), .int .i64 (0), .int .i64 (0), .int .i64 (0), .int .i64 (0), .int .i64 (0), .int .i64 (0), .int .i64 (0), .int .i64 (0), .int .i64 (0), .int .i64 (0), .int .i64 (0), .int .i64 (0), .int .i64 (0), .int .i64 (0), .int .i64 (0), .int .i64 (0), .int .i64 (0), .int .i64 (0), .int .i64 (0), .int .i64 (0), .int .i64 (0), .int .i64 (0), .int .i64 (0), .int .i64 (0), .int .i64 (0), .int .i64 (0), .int .i64 (0), .int .i64 (0), .int .i64 (0), .int .i64 (0), .int .i64 (0), .int .i64 (0), .int .i64 (0), .int .i64 (0), .int .i64 (0), .int .i64 (0), .int .i64 (0), .int .i64 (0), .int .i64 (0), .int .i64 (0), .int .i64 (0), .int .i64 (0), .int .i64 (0), .int .i64 (0), .int .i64 (0), .int .i64 (0), .int .i64 (0), .int .i64 (0), .int .i64 (0), .int .i64 (0), .int .i64 (0), .int .i64 (0), .int .i64 (0), .int .i64 (0), .int .i64 (0), .int .i64 (0), .int .i64 (0), .int .i64 (0), .int .i64 (0), .int .i64 (0), .int .i64 (0), .int .i64 (0), .int .i64 (0), .int .i64 (0), .int .i64 (0), .int .i64 (0), .int .i64 (0), .int .i64 (0), .int .i64 (0), .int .i64 (0), .int .i64 (0), .int .i64 (0), .int .i64 (0), .int .i64 (0), .int .i64 (0), .int .i64 (0), .int .i64 (0), .int .i64 (0), .int .i64 (0), .int .i64 (0), .int .i64 (0), .int .i64 (0), .int .i64 (0), .int .i64 (0), .int .i64 (0), .int .i64 (0), .int .i64 (0), .int .i64 (0), .int .i64 (0), .int .i64 (0), .int .i64 (0), .int .i64 (0), .int .i64 (0), .int .i64 (0), .int .i64 (0), .int .i64 (0), .int .i64 (0), .int .i64 (0), .int .i64 (0), .int .i64 (0), .int .i64 (0), .int .i64 (0), .int .i64 (0), .int .i64 (0), .int .i64 (0), .int .i64 (0), .int .i64 (0), .int .i64 (0), .int .i64 (0), .int .i64 (0), .int .i64 (0), .int .i64 (0), .int .i64 (0), .int .i64 (0), .int .i64 (0), .int .i64 (0), .int .i64 (0), .int .i64 (0), .int .i64 (0), .int .i64 (0), .int .i64 (0), .int .i64 (0), .int .i64 (0), .int .i64 (0), .int .i64 (0), .int .i64 (0), .int .i64 (0), .int .i64 (0), .int .i64 (0), .int .i64 (0), .int .i64 (0), .int .i64 (0), .int .i64 (0), .int .i64 (0), .int .i64 (0), .int .i64 (0), .int .i64 (0), .int .i64 (0), .int .i64 (0), .int .i64 (0), .int .i64 (0), .int .i64 (0), .int .i64 (0), .int .i64 (0), .int .i64 (0), .int .i64 (0), .int .i64 (0), .int .i64 (0), .int .i64 (0), .int .i64 (0), .int .i64 (0), .int .i64 (0), .int .i64 (0), .int .i64 (0), .int .i64 (0), .int .i64 (0), .int .i64 (0), .int .i64 (0), .int .i64 (0), .int .i64 (0), .int .i64 (0), .int .i64 (0), .int .i64 (0), .int .i64 (0), .int .i64 (0), .int .i64 (0), .int .i64 (0), .int .i64 (0), .int .i64 (0), .int .i64 (0), .int .i64 (0), .int .i64 (0), .int .i64 (0), .int .i64 (0), .int .i64 (0), .int .i64 (0), .int .i64 (0), .int .i64 (0), .int .i64 (0), .int .i64 (0), .int .i64 (0), .int .i64 (0), .int .i64 (0), .int .i64 (0), .int .i64 (0), .int .i64 (0), .int .i64 (0), .int .i64 (0), .int .i64 (0), .int .i64 (0), .int .i64 (0), .int .i64 (0), .int .i64 (0), .int .i64 (0), .int .i64 (0), .int .i64 (0), .int .i64 (0), .int .i64 (0), .int .i64 (0), .int .i64 (0), .int .i64 (0), .int .i64 (0), .int .i64 (0), .int .i64 (0), .int .i64 (0), .int .i64 (0), .int .i64 (0), .int .i64 (0), .int .i64 (0), .int .i64 (0), .int .i64 (0), .int .i64 (0), .int .i64 (0), .int .i64 (0), .int .i64 (0), .int .i64 (0), .int .i64 (0), .int .i64 (0), .int .i64 (0), .int .i64 (0), .int .i64 (0), .int .i64 (0), .int .i64 (0), .int .i64 (0), .int .i64 (0), .int .i64 (0), .int .i64 (0), .int .i64 (0), .int .i64 (0), .int .i64 (0), .int .i64 (0), .int .i64 (0), .int .i64 (0), .int .i64 (0), .int .i64 (0), .int .i64 (0), .int .i64 (0), .int .i64 (0), .int .i64 (0), .int .i64 (0), .int .i64 (0), .int .i64 (0), .int .i64 (0), .int .i64 (0), .int .i64 (0), .int .i64 (0), .int .i64 (0), .int .i64 (0), .int .i64 (0), .int .i64 (0), .int .i64 (0), .int .i64 (0), .int .i64 (0), .int .i64 (0), .int .i64 (0), .int .i64 (0), .int .i64 (0), .int .i64 (0), .int .i64 (0), .int .i64 (0), .int .i64 (0), .int .i64 (0), .int .i64 (0), .int .i64 (0), .int .i64 (0), .int .i64 (0), .int .i64 (0), .int .i64 (0), .int .i64 (0), .int .i64 (0), .int .i64 (0), .int .i64 (0), .int .i64 (0), .int .i64 (0), .int .i64 (0), .int .i64 (0), .int .i64 (0), .int .i64 (0), .int .i64 (0), .int .i64 (0), .int .i64 (0), .int .i64 (0), .int .i64 (0), .int .i64 (0), .int .i64 (0), .int .i64 (0), .int .i64 (0), .int .i64 (0), .int .i64 (0), .int .i64 (0), .int .i64 (0), .int .i64 (0), .int .i64 (0), .int .i64 (0), .int .i64 (0), .int .i64 (0), .int .i64 (0), .int .i64 (0), .int .i64 (0), .int .i64 (0), .int .i64 (0), .int .i64 (0), .int .i64 (0), .int .i64 (0), .int .i64 (0), .int .i64 (0), .int .i64 (0), .int .i64 (0), .int .i64 (0), .int .i64 (0), .int .i64 (0), .int .i64 (0), .int .i64 (0), .int .i64 (0), .int .i64 (0), .int .i64 (0), .int .i64 (0), .int .i64 (0), .int .i64 (0), .int .i64 (0), .int .i64 (0), .int .i64 (0), .int .i64 (0), .int .i64 (0), .int .i64 (0), .int .i64 (0), .int .i64 (0), .int .i64 (0), .int .i64 (0), .int .i64 (0), .int .i64 (0), .int .i64 (0), .int .i64 (0), .int .i64 (0), .int .i64 (0), .int .i64 (0), .int .i64 (0), .int .i64 (0), .int .i64 (0), .int .i64 (0), .int .i64 (0), .int .i64 (0), .int .i64 (0), .int .i64 (0), .int .i64 (0), .int .i64 (0), .int .i64 (0), .int .i64 (0), .int .i64 (0), .int .i64 (0), .int .i64 (0), .int .i64 (0), .int .i64 (0), .int .i64 (0), .int .i64 (0), .int .i64 (0), .int .i64 (0), .int .i64 (0), .int .i64 (0), .int .i64 (0), .int .i64 (0), .int .i64 (0), .int .i64 (0), .int .i64 (0), .int .i64 (0), .int .i64 (0), .int .i64 (0), .int .i64 (0), .int .i64 (0), .int .i64 (0), .int .i64 (0), .int .i64 (0), .int .i64 (0), .int .i64 (0), .int .i64 (0), .int .i64 (0), .int .i64 (0), .int .i64 (0), .int .i64 (0), .int .i64 (0), .int .i64 (0), .int .i64 (0), .int .i64 (0), .int .i64 (0), .int .i64 (0), .int .i64 (0), .int .i64 (0), .int .i64 (0), .int .i64 (0), .int .i64 (0), .int .i64 (0), .int .i64 (0), .int .i64 (0), .int .i64 (0), .int .i64 (0), .int .i64 (0), .int .i64 (0), .int .i64 (0), .int .i64 (0), .int .i64 (0), .int .i64 (0), .int .i64 (0), .int .i64 (0), .int .i64 (0), .int .i64 (0), .int .i64 (0), .int .i64 (0), .int .i64 (0), .int .i64 (0), .int .i64 (0), .int .i64 (0), .int .i64 (0), .int .i64 (0), .int .i64 (0), .int .i64 (0), .int .i64 (0), .int .i64 (0), .int .i64 (0), .int .i64 (0), .int .i64 (0), .int .i64 (0), .int .i64 (0), .int .i64 (0), .int .i64 (0), .int .i64 (0), .int .i64 (0), .int .i64 (0), .bool false, .bool false, .bool false, .bool false, .bool false, .bool false, .bool false, .bool false, .bool false, .bool false, .bool false, .bool false, .bool false, .bool false, .bool false, .bool false, .slice none 0 0]) := _root_.id rfl
@[simp] theorem bytes77 : Try.t77.bytes = 8448 := _root_.id rfl
@[simp] theorem zero78 : Try.t78.zero = some (.agg #[.int .i64 (0), .int .i64 (0), .int .i64 (0), .int .i64 (0), .int .i64 (0), .slice none 0 0, .int .i64 (0), .int .i64 (0), .int .i64 (0), .int .i64 (0), .int .i64 (0), .int .i64 (0), .int .i64 (0), .int .i64 (0), .int .i64 (0), .int .i64 (0), .int .i64 (0), .int .i64 (0), .int .i64 (0), .int .i64 (0), .int .i64 (0), .int .i64 (0), .int .i64 (0), .int .i64 (0), .int .i64 (0), .int .i64 (0), .int .i64 (0), .int .i64 (0), .int .i64 (0), .int .i64 (0), .int .i64 (0), .int .i64 (0), .int .i64 (0), .int .i64 (0), .int .i64 (0), .int .i64 (0), .int .i64 (0), .int .i64 (0), .int .i64 (0), .int .i64 (0), .int .i64 (0), .int .i64 (0), .int .i64 (0), .int .i64 (0), .int .i64 (0), .int .i64 (0), .int .i64 (0), .int .i64 (0), .int .i64 (0), .int .i64 (0), .int .i64 (0), .int .i64 (0), .int .i64 (0), .int .i64 (0), .int .i64 (0), .int .i64 (0), .int .i64 (0), .int .i64 (0), .int .i64 (0), .int .i64 (0), .int .i64 (0), .int .i64 (0), .int .i64 (0), .int .i64 (0), .int .i64 (0), .int .i64 (0), .int .i64 (0), .int .i64 (0), .int .i64 (0), .int .i64 (0), .int .i64 (0), .int .i64 (0), .int .i64 (0), .int .i64 (0), .int .i64 (0), .int .i64 (0), .int .i64 (0), .int .i64 (0), .int .i64 (0), .int .i64 (0), .int .i64 (0), .int .i64 (0), .int .i64 (0), .int .i64 (0), .int .i64 (0), .int .i64 (0), .int .i64 (0), .int .i64 (0), .int .i64 (0), .int .i64 (0), .int .i64 (0), .int .i64 (0), .int .i64 (0), .int .i64 (0), .int .i64 (0), .int .i64 (0), .int .i64 (0), .int .i64 (0), .int .i64 (0), .int .i64 (0), .int .i64 (0), .int .i64 (0), .int .i64 (0), .int .i64 (0), .int .i64 (0), .int .i64 (0), .int .i64 (0), .int .i64 (0), .int .i64 (0), .int .i64 (0), .int .i64 (0), .int .i64 (0), .int .i64 (0), .int .i64 (0), .int .i64 (0), .int .i64 (0), .int .i64 (0), .int .i64 (0), .int .i64 (0), .int .i64 (0), .int .i64 (0), .int .i64 (0), .int .i64 (0), .int .i64 (0), .int .i64 (0), .int .i64 (0), .int .i64 (0), .int .i64 (0), .int .i64 (0), .int .i64 (0), .int .i64 (0), .int .i64 (0), .int .i64 (0), .int .i64 (0), .int .i64 (0), .int .i64 (0), .int .i64 (0), .int .i64 (0), .int .i64 (0), .int .i64 (0), .int .i64 (0), .int .i64 (0), .int .i64 (0), .int .i64 (0), .int .i64 (0), .int .i64 (0), .int .i64 (0), .int .i64 (0), .int .i64 (0), .int .i64 (0), .int .i64 (0), .int .i64 (0), .int .i64 (0), .int .i64 (0), .int .i64 (0), .int .i64 (0), .int .i64 (0), .int .i64 (0), .int .i64 (0), .int .i64 (0), .int .i64 (0), .int .i64 (0), .int .i64 (0), .int .i64 (0), .int .i64 (0), .int .i64 (0), .int .i64 (0), .int .i64 (0), .int .i64 (0), .int .i64 (0), .int .i64 (0), .int .i64 (0), .int .i64 (0), .int .i64 (0), .int .i64 (0), .int .i64 (0), .int .i64 (0), .int .i64 (0), .int .i64 (0), .int .i64 (0), .int .i64 (0), .int .i64 (0), .int .i64 (0), .int .i64 (0), .int .i64 (0), .int .i64 (0), .int .i64 (0), .int .i64 (0), .int .i64 (0), .int .i64 (0), .int .i64 (0), .int .i64 (0), .int .i64 (0), .int .i64 (0), .int .i64 (0), .int .i64 (0), .int .i64 (0), .int .i64 (0), .int .i64 (0), .int .i64 (0), .int .i64 (0), .int .i64 (0), .int .i64 (0), .int .i64 (0), .int .i64 (0), .int .i64 (0), .int .i64 (0), .int .i64 (0), .int .i64 (0), .int .i64 (0), .int .i64 (0), .int .i64 (0), .int .i64 (0), .int .i64 (0), .int .i64 (0), .int .i64 (0), .int .i64 (0), .int .i64 (0), .int .i64 (0), .int .i64 (0), .int .i64 (0), .int .i64 (0), .int .i64 (0), .int .i64 (0), .int .i64 (0), .int .i64 (0), .int .i64 (0), .int .i64 (0), .int .i64 (0), .int .i64 (0), .int .i64 (0), .int .i64 (0), .int .i64 (0), .int .i64 (0), .int .i64 (0), .int .i64 (0), .int .i64 (0), .int .i64 (0), .int .i64 (0), .int .i64 (0), .int .i64 (0), .int .i64 (0), .int .i64 (0), .int .i64 (0), .int .i64 (0), .int .i64 (0), .int .i64 (0), .int .i64 (0), .int .i64 (0), .int .i64 (0), .int .i64 (0), .int .i64 (0), .int .i64 (0), .int .i64 (0), .int .i64 (0), .int .i64 (0), .int .i64 (0), .int .i64 (0), .int .i64 (0), .int .i64 (0), .int .i64 (0), .int .i64 (0), .int .i64 (0), .int .i64 (0), .int .i64 (0), .int .i64 (0), .int .i64 (0), .int .i64 (0), .int .i64 (0), .int .i64 (0), .int .i64 (0), .int .i64 (0), .int .i64 (0), .int .i64 (0), .int .i64 (0), .int .i64 (0), .int .i64 (0), .int .i64 (0), .int .i64 (0), .int .i64 (0), .int .i64 (0), .int .i64 (0), .int .i64 (0), .int .i64 (0), .int .i64 (0), .int .i64 (0), .int .i64 (0), .int .i64 (0), .int .i64 (0), .int .i64 (0), .int .i64 (0), .int .i64 (0), .int .i64 (0), .int .i64 (0), .int .i64 (0), .int .i64 (0), .int .i64 (0), .int .i64 (0), .int .i64 (0), .int .i64 (0), .int .i64 (0), .int .i64 (0), .int .i64 (0), .int .i64 (0), .int .i64 (0), .int .i64 (0), .int .i64 (0), .int .i64 (0), .int .i64 (0), .int .i64 (0), .int .i64 (0), .int .i64 (0), .int .i64 (0), .int .i64 (0), .int .i64 (0), .int .i64 (0), .int .i64 (0), .int .i64 (0), .int .i64 (0), .int .i64 (0), .int .i64 (0), .int .i64 (0), .int .i64 (0), .int .i64 (0), .int .i64 (0), .int .i64 (0), .int .i64 (0), .int .i64 (0), .int .i64 (0), .int .i64 (0), .int .i64 (0), .int .i64 (0), .int .i64 (0), .int .i64 (0), .int .i64 (0), .int .i64 (0), .int .i64 (0), .int .i64 (0), .int .i64 (0), .int .i64 (0), .int .i64 (0), .int .i64 (0), .int .i64 (0), .int .i64 (0), .int .i64 (0), .int .i64 (0), .int .i64 (0), .int .i64 (0), .int .i64 (0), .int .i64 (0), .int .i64 (0), .int .i64 (0), .int .i64 (0), .int .i64 (0), .int .i64 (0), .int .i64 (0), .int .i64 (0), .int .i64 (0), .int .i64 (0), .int .i64 (0), .int .i64 (0), .int .i64 (0), .int .i64 (0), .int .i64 (0), .int .i64 (0), .int .i64 (0), .int .i64 (0), .int .i64 (0), .int .i64 (0), .int .i64 (0), .int .i64 (0), .int .i64 (0), .int .i64 (0), .int .i64 (0), .int .i64 (0), .int .i64 (0), .int .i64 (0), .int .i64 (0), .int .i64 (0), .int .i64 (0), .int .i64 (0), .int .i64 (0), .int .i64 (0), .int .i64 (0), .int .i64 (0), .int .i64 (0), .int .i64 (0), .int .i64 (0), .int .i64 (0), .int .i64 (0), .int .i64 (0), .int .i64 (0), .int .i64 (0), .int .i64 (0), .int .i64 (0), .int .i64 (0), .int .i64 (0), .int .i64 (0), .int .i64 (0), .int .i64 (0), .int .i64 (0), .int .i64 (0), .int .i64 (0), .int .i64 (0), .int .i64 (0), .int .i64 (0), .int .i64 (0), .int .i64 (0), .int .i64 (0), .int .i64 (0), .int .i64 (0), .int .i64 (0), .int .i64 (0), .int .i64 (0), .int .i64 (0), .int .i64 (0), .int .i64 (0), .int .i64 (0), .int .i64 (0), .int .i64 (0), .int .i64 (0), .int .i64 (0), .int .i64 (0), .int .i64 (0), .int .i64 (0), .int .i64 (0), .int .i64 (0), .int .i64 (0), .int .i64 (0), .int .i64 (0), .int .i64 (0), .int .i64 (0), .int .i64 (0), .int .i64 (0), .int .i64 (0), .int .i64 (0), .int .i64 (0), .int .i64 (0), .int .i64 (0), .int .i64 (0), .int .i64 (0), .int .i64 (0), .int .i64 (0), .int .i64 (0), .int .i64 (0), .int .i64 (0), .int .i64 (0), .int .i64 (0), .int .i64 (0), .int .i64 (0), .int .i64 (0), .int .i64 (0), .int .i64 (0), .int .i64 (0), .int .i64 (0), .int .i64 (0), .int .i64 (0), .int .i64 (0), .int .i64 (0), .int .i64 (0), .int .i64 (0), .int .i64 (0), .int .i64 (0), .int .i64 (0), .int .i64 (0), .int .i64 (0), .int .i64 (0), .int .i64 (0), .int .i64 (0), .int .i64 (0), .int .i64 (0), .int .i64 (0), .int .i64 (0), .int .i64 (0), .int .i64 (0), .int .i64 (0), .int .i64 (0), .int .i64 (0), .int .i64 (0), .int .i64 (0), .int .i64 (0), .int .i64 (0), .int .i64 (0), .int .i64 (0), .int .i64 (0), .int .i64 (0), .int .i64 (0), .int .i64 (0), .int .i64 (0), .int .i64 (0), .int .i64 (0), .int .i64 (0), .int .i64 (0), .int .i64 (0), .int .i64 (0), .int .i64 (0), .int .i64 (0), .int .i64 (0), .int .i64 (0), .int .i64 (0), .int .i64 (0), .int .i64 (0), .int .i64 (0), .int .i64 (0), .int .i64 (0), .int .i64 (0), .int .i64 (0), .int .i64 (0), .int .i64 (0), .int .i64 (0), .int .i64 (0), .int .i64 (0), .int .i64 (0), .int .i64 (0), .int .i64 (0), .int .i64 (0), .int .i64 (0), .int .i64 (0), .int .i64 (0), .int .i64 (0), .int .i64 (0), .int .i64 (0), .int .i64 (0), .int .i64 (0), .int .i64 (0), .int .i64 (0), .int .i64 (0), .int .i64 (0), .int .i64 (0), .int .i64 (0), .int .i64 (0), .int .i64 (0), .int .i64 (0), .int .i64 (0), .int .i64 (0), .int .i64 (0), .int .i64 (0), .int .i64 (0), .int .i64 (0), .int .i64 (0), .int .i64 (0), .int .i64 (0), .int .i64 (0), .int .i64 (0), .int .i64 (0), .int .i64 (0), .int .i64 (0), .int .i64 (0), .int .i64 (0), .int .i64 (0), .int .i64 (0), .int .i64 (0), .int .i64 (0), .int .i64 (0), .int .i64 (0), .int .i64 (0), .int .i64 (0), .int .i64 (0), .int .i64 (0), .int .i64 (0), .int .i64 (0), .int .i64 (0), .int .i64 (0), .int .i64 (0), .int .i64 (0), .int .i64 (0), .int .i64 (0), .int .i64 (0), .int .i64 (0), .int .i64 (0), .int .i64 (0), .int .i64 (0), .int .i64 (0), .int .i64 (0), .int .i64 (0), .int .i64 (0), .int .i64 (0), .int .i64 (0), .int .i64 (0), .int .i64 (0), .int .i64 (0), .int .i64 (0), .int .i64 (0), .int .i64 (0), .int .i64 (0), .int .i64 (0), .int .i64 (0), .int .i64 (0), .int .i64 (0), .int .i64 (0), .int .i64 (0), .int .i64 (0), .int .i64 (0), .int .i64 (0), .int .i64 (0), .int .i64 (0), .int .i64 (0), .int .i64 (0), .int .i64 (0), .int .i64 (0), .int .i64 (0), .int .i64 (0), .int .i64 (0), .int .i64 (0), .int .i64 (0), .int .i64 (0), .int .i64 (0), .int .i64 (0), .int .i64 (0), .int .i64 (0), .int .i64 (0), .int .i64 (0), .int .i64 (0), .int .i64 (0), .int .i64 (0), .int .i64 (0), .int .i64 (0), .int .i64 (0), .int .i64 (0), .int .i64 (0), .int .i64 (0), .int .i64 (0), .int .i64 (0), .int .i64 (0), .int .i64 (0), .int .i64 (0), .int .i64 (0), .int .i64 (0), .int .i64 (0), .int .i64 (0), .int .i64 (0), .int .i64 (0), .int .i64 (0), .int .i64 (0), .int .i64 (0), .int .i64 (0), .int .i64 (0), .int .i64 (0), .int .i64 (0), .int .i64 (0), .int .i64 (0), .int .i64 (0), .int .i64 (0), .int .i64 (0), .int .i64 (0), .int .i64 (0), .int .i64 (0), .int .i64 (0), .int .i64 (0), .int .i64 (0), .int .i64 (0), .int .i64 (0), .int .i64 (0), .int .i64 (0), .int .i64 (0), .int .i64 (0), .int .i64 (0), .int .i64 (0), .int .i64 (0), .int .i64 (0), .int .i64 (0), .int .i64 (0), .int .i64 (0), .int .i64 (0), .int .i64 (0), .int .i64 (0), .int .i64 (0), .int .i64 (0), .int .i64 (0), .int .i64 (0), .int .i64 (0), .int .i64 (0), .int .i64 (0), .int .i64 (0), .int .i64 (0), .int .i64 (0), .int .i64 (0), .int .i64 (0), .int .i64 (0), .int .i64 (0), .int .i64 (0), .int .i64 (0), .int .i64 (0), .int .i64 (0), .int .i64 (0), .int .i64 (0), .int .i64 (0), .int .i64 (0), .int .i64 (0), .int .i64 (0), .int .i64 (0), .int .i64 (0), .int .i64 (0), .int .i64 (0), .int .i64 (0), .int .i64 (0), .int .i64 (0), .int .i64 (0), .int .i64 (0), .int .i64 (0), .int .i64 (0), .int .i64 (0), .int .i64 (0), .int .i64 (0), .int .i64 (0), .int .i64 (0), .int .i64 (0), .int .i64 (0), .int .i64 (0), .int .i64 (0), .int .i64 (0), .int .i64 (0), .int .i64 (0), .int .i64 (0), .int .i64 (0), .int .i64 (0), .int .i64 (0), .int .i64 (0), .int .i64 (0), .int .i64 (0), .int .i64 (0), .int .i64 (0), .int .i64 (0), .int .i64 (0), .int .i64 (0), .int .i64 (0), .int .i64 (0), .int .i64 (0), .int .i64 (0), .int .i64 (0), .int .i64 (0), .int .i64 (0), .int .i64 (0), .int .i64 (0), .int .i64 (0), .int .i64 (0), .int .i64 (0), .int .i64 (0), .int .i64 (0), .int .i64 (0), .int .i64 (0), .int .i64 (0), .int .i64 (0), .int .i64 (0), .int .i64 (0), .int .i64 (0), .int .i64 (0), .int .i64 (0), .int .i64 (0), .int .i64 (0), .int .i64 (0), .int .i64 (0), .int .i64 (0), .int .i64 (0), .int .i64 (0), .int .i64 (0), .int .i64 (0), .int .i64 (0), .int .i64 (0), .int .i64 (0), .int .i64 (0), .int .i64 (0), .int .i64 (0), .int .i64 (0), .int .i64 (0), .int .i64 (0), .int .i64 (0), .int .i64 (0), .int .i64 (0), .int .i64 (0), .int .i64 (0), .int .i64 (0), .int .i64 (0), .int .i64 (0), .int .i64 (0), .int .i64 (0), .int .i64 (0), .int .i64 (0), .int .i64 (0), .int .i64 (0), .int .i64 (0), .int .i64 (0), .int .i64 (0), .int .i64 (0), .int .i64 (0), .int .i64 (0), .int .i64 (0), .int .i64 (0), .int .i64 (0), .int .i64 (0), .int .i64 (0), .int .i64 (0), .int .i64 (0), .int .i64 (0), .int .i64 (0), .int .i64 (0), .int .i64 (0), .int .i64 (0), .int .i64 (0), .int .i64 (0), .int .i64 (0), .int .i64 (0), .int .i64 (0), .int .i64 (0), .int .i64 (0), .int .i64 (0), .int .i64 (0), .int .i64 (0), .int .i64 (0), .int .i64 (0), .int .i64 (0), .int .i64 (0), .int .i64 (0), .int .i64 (0), .int .i64 (0), .int .i64 (0), .int .i64 (0), .int .i64 (0), .int .i64 (0), .int .i64 (0), .int .i64 (0), .int .i64 (0), .int .i64 (0), .int .i64 (0), .int .i64 (0), .int .i64 (0), .int .i64 (0), .int .i64 (0), .int .i64 (0), .int .i64 (0), .int .i64 (0), .int .i64 (0), .int .i64 (0), .int .i64 (0), .int .i64 (0), .int .i64 (0), .int .i64 (0), .int .i64 (0), .int .i64 (0), .int .i64 (0), .int .i64 (0), .int .i64 (0), .int .i64 (0), .int .i64 (0), .int .i64 (0), .int .i64 (0), .int .i64 (0), .int .i64 (0), .int .i64 (0), .int .i64 (0), .int .i64 (0), .int .i64 (0), .int .i64 (0), .int .i64 (0), .int .i64 (0), .int .i64 (0), .int .i64 (0), .int .i64 (0), .int .i64 (0), .int .i64 (0), .int .i64 (0), .int .i64 (0), .int .i64 (0), .int .i64 (0), .int .i64 (0), .int .i64 (0), .int .i64 (0), .int .i64 (0), .int .i64 (0), .int .i64 (0), .int .i64 (0), .int .i64 (0), .int .i64 (0), .int .i64 (0), .int .i64 (0), .int .i64 (0), .int .i64 (0), .int .i64 (0), .int .i64 (0), .int .i64 (0), .int .i64 (0), .int .i64 (0), .int .i64 (0), .int .i64 (0), .int .i64 (0), .int .i64 (0), .int .i64 (0), .int .i64 (0), .int .i64 (0), .int .i64 (0), .int .i64 (0), .int .i64 (0), .int .i64 (0), .int .i64 (0), .int .i64 (0), .int .i64 (0), .int .i64 (0), .int .i64 (0), .int .i64 (0), .int .i64 (0), .int .i64 (0), .int .i64 (0), .int .i64 (0), .int .i64 (0), .int .i64 (0), .int .i64 (0), .int .i64 (0), .int .i64 (0), .int .i64 (0), .int .i64 (0), .int .i64 (0), .int .i64 (0), .int .i64 (0), .int .i64 (0), .int .i64 (0), .int .i64 (0), .int .i64 (0), .int .i64 (0), .int .i64 (0), .int .i64 (0), .int .i64 (0), .int .i64 (0), .int .i64 (0), .int .i64 (0), .int .i64 (0), .int .i64 (0), .int .i64 (0), .int .i64 (0), .int .i64 (0), .int .i64 (0), .int .i64 (0), .int .i64 (0), .int .i64 (0), .int .i64 (0), .int .i64 (0), .int .i64 (0), .int .i64 (0), .int .i64 (0), .int .i64 (0), .int .i64 (0), .int .i64 (0), .int .i64 (0), .int .i64 (0), .int .i64 (0), .int .i64 (0), .int .i64 (0), .int .i64 (0), .int .i64 (0), .int .i64 (0), .int .i64 (0), .int .i64 (0), .int .i64 (0), .int .i64 (0), .int .i64 (0), .int .i64 (0), .int .i64 (0), .int .i64 (0), .int .i64 (0), .int .i64 (0), .int .i64 (0), .int .i64 (0), .int .i64 (0), .int .i64 (0), .int .i64 (0), .int .i64 (0), .int .i64 (0), .int .i64 (0), .int .i64 (0), .int .i64 (0), .int .i64 (0), .int .i64 (0), .int .i64 (0), .int .i64 (0), .int .i64 (0), .int .i64 (0), .int .i64 (0), .int .i64 (0), .int .i64 (0), .int .i64 (0), .int .i64 (0), .int .i64 (0), .int .i64 (0), .int .i64 (0), .int .i64 (0), .int .i64 (0), .int .i64 (0), .int .i64 (0), .int .i64 (0), .int .i64 (0), .int .i64 (0), .int .i64 (0), .int .i64 (0), .int .i64 (0), .int .i64 (0), .int .i64 (0), .int .i64 (0), .int .i64 (0), .int .i64 (0), .int .i64 (0), .int .i64 (0), .int .i64 (0), .int .i64 (0), .int .i64 (0), .int .i64 (0), .int .i64 (0), .int .i64 (0), .int .i64 (0), .int .i64 (0), .int .i64 (0), .int .i64 (0), .int .i64 (0), .int .i64 (0), .int .i64 (0), .int .i64 (0), .int .i64 (0), .int .i64 (0), .int .i64 (0), .int .i64 (0), .int .i64 (0), .int .i64 (0), .int .i64 (0), .int .i64 (0), .int .i64 (0), .int .i64 (0), .int .i64 (0), .int .i64 (0), .int .i64 (0), .int .i64 (0), .int .i64 (0), .int .i64 (0), .int .i64 (0), .int .i64 (0), .int .i64 (0), .int .i64 (0), .int .i64 (0), .int .i64 (0), .int .i64 (0), .int .i64 (0), .int .i64 (0), .int .i64 (0), .int .i64 (0), .int .i64 (0), .int .i64 (0), .int .i64 (0), .int .i64 (0), .int .i64 (0), .int .i64 (0), .int .i64 (0), .int .i64 (0), .bool false, .bool false, .bool false, .bool false, .bool false, .bool false, .bool false, .bool false, .bool false, .bool false, .bool false, .bool false, .bool false, .bool false, .bool false, .bool false, .slice none 0 0]) := _root_.id rfl
@[simp] theorem bytes78 : Try.t78.bytes = 8448 := _root_.id rfl
@[simp] theorem zero79 : Try.t79.zero = some (.nilFunc) := _root_.id rfl
@[simp] theorem bytes79 : Try.t79.bytes = 8 := _root_.id rfl
@[simp] theorem zero80 : Try.t80.zero = some (.nilFunc) := _root_.id rfl
@[simp] theorem bytes80 : Try.t80.bytes = 8 := _root_.id rfl
@[simp] theorem zero81 : Try.t81.zero = some (.nilFunc) := _root_.id rfl
@[simp] theorem bytes81 : Try.t81.bytes = 8 := _root_.id rfl
@[simp] theorem zero82 : Try.t82.zero = some (.agg #[.int .i64 (0), .int .i64 (0), .int .i64 (0), .int .i64 (0), .string (sB []), .bool false]) := _root_.id rfl
@[simp] theorem bytes82 : Try.t82.bytes = 56 := _root_.id rfl
@[simp] theorem zero83 : Try.t83.zero = some (.agg #[.int .i64 (0), .int .i64 (0), .int .i64 (0), .int .i64 (0), .string (sB []), .bool false]) := _root_.id rfl
@[simp] theorem bytes83 : Try.t83.bytes = 56 := _root_.id rfl
@[simp] theorem zero84 : Try.t84.zero = some (.nilFunc) := _root_.id rfl
@[simp] theorem bytes84 : Try.t84.bytes = 8 := _root_.id rfl
@[simp] theorem zero85 : Try.t85.zero = some (.nilFunc) := _root_.id rfl
@[simp] theorem bytes85 : Try.t85.bytes = 8 := _root_.id rfl
@[simp] theorem zero86 : Try.t86.zero = some (.slice none 0 0) := _root_.id rfl
@[simp] theorem bytes86 : Try.t86.bytes = 24 := _root_.id rfl
@[simp] theorem zero87 : Try.t87.zero = some (.slice none 0 0) := _root_.id rfl
@[simp] theorem bytes87 : Try.t87.bytes = 24 := _root_.id rfl
@[simp] theorem zero88 : Try.t88.zero = some (.slice none 0 0) := _root_.id rfl
@[simp] theorem bytes88 : Try.t88.bytes = 24 := _root_.id rfl
@[simp] theorem zero89 : Try.t89.zero = some (.agg #[.int .i64 (0), .int .i64 (0), .slice none 0 0, .int .i64 (0), .slice none 0 0, .slice none 0 0, .slice none 0 0, .slice none 0 0, .int .i64 (0), .int .i64 (0), .int .i64 (0), .int .i64 (0)]) := _root_.id rfl
@[simp] theorem bytes89 : Try.t89.bytes = 176 := _root_.id rfl
@[simp] theorem zero90 : Try.t90.zero = some (.agg #[.int .i64 (0), .int .i64 (0), .slice none 0 0, .int .i64 (0), .slice none 0 0, .slice none 0 0, .slice none 0 0, .slice none 0 0, .int .i64 (0), .int .i64 (0), .int .i64 (0), .int .i64 (0)]) := _root_.id rfl
@[simp] theorem bytes90 : Try.t90.bytes = 176 := _root_.id rfl
@[simp] theorem zero91 : Try.t91.zero = some (.agg #[.int .i64 (0), .int .i64 (0), .int .i64 (0), .int .i64 (0), .int .i64 (0), .string (sB [])]) := _root_.id rfl
@[simp] theorem bytes91 : Try.t91.bytes = 56 := _root_.id rfl
@[simp] theorem zero92 : Try.t92.zero = some (.agg #[.int .i64 (0), .int .i64 (0), .int .i64 (0), .int .i64 (0), .int .i64 (0), .string (sB [])]) := _root_.id rfl
@[simp] theorem bytes92 : Try.t92.bytes = 56 := _root_.id rfl
@[simp] theorem zero93 : Try.t93.zero = some (.nilFunc) := _root_.id rfl
@[simp] theorem bytes93 : Try.t93.bytes = 8 := _root_.id rfl
@[simp] theorem zero94 : Try.t94.zero = some (.nilFunc) := _root_.id rfl
@[simp] theorem bytes94 : Try.t94.bytes = 8 := _root_.id rfl
@[simp] theorem zero96 : Try.t96.zero = some (.nilFunc) := _root_.id rfl
@[simp] theorem bytes96 : Try.t96.bytes = 8 := _root_.id rfl
@[simp] theorem zero97 : Try.t97.zero = some (.nilFunc) := _root_.id rfl
@[simp] theorem bytes97 : Try.t97.bytes = 8 := _root_.id rfl
@[simp] theorem zero98 : Try.t98.zero = some (.nilFunc) := _root_.id rfl
@[simp] theorem bytes98 : Try.t98.bytes = 8 := _root_.id rfl
@[simp] theorem zero99 : Try.t99.zero = some (.nilFunc) := _root_.id rfl
@[simp] theorem bytes99 : Try.t99.bytes = 8 := _root_.id rfl
@[simp] theorem zero100 : Try.t100.zero = some (.nilFunc) := _root_.id rfl
@[simp] theorem bytes100 : Try.t100.bytes = 8 := _root_.id rfl
@[simp] theorem zero101 : Try.t101.zero = some (.int .u64 (0)) := _root_.id rfl
@[simp] theorem bytes101 : Try.t101.bytes = 8 := _root_.id rfl
@[simp] theorem zero102 : Try.t102.zero = some (.nilFunc) := _root_.id rfl
@[simp] theorem bytes102 : Try.t102.bytes = 8 := _root_.id rfl
@[simp] theorem zero103 : Try.t103.zero = some (.nilFunc) := _root_.id rfl
@[simp] theorem bytes103 : Try.t103.bytes = 8 := _root_.id rfl
@[simp] theorem zero104 : Try.t104.zero = some (.nilFunc) := _root_.id rfl
@[simp] theorem bytes104 : Try.t104.bytes = 8 := _root_.id rfl
@[simp] theorem zero105 : Try.t105.zero = some (.nilFunc) := _root_.id rfl
@[simp] theorem bytes105 : Try.t105.bytes = 8 := _root_.id rfl
@[simp] theorem zero106 : Try.t106.zero = some (.nilFunc) := _root_.id rfl
@[simp] theorem bytes106 : Try.t106.bytes = 8 := _root_.id rfl
@[simp] theorem zero107 : Try.t107.zero = some (.nilFunc) := _root_.id rfl
@[simp] theorem bytes107 : Try.t107.bytes = 8 := _root_.id rfl
@[simp] theorem zero108 : Try.t108.zero = some (.agg #[.pointer none, .pointer none, .pointer none, .string (sB [])]) := _root_.id rfl
@[simp] theorem bytes108 : Try.t108.bytes = 40 := _root_.id rfl
@[simp] theorem zero109 : Try.t109.zero = some (.agg #[.pointer none, .pointer none, .pointer none, .string (sB [])]) := _root_.id rfl
@[simp] theorem bytes109 : Try.t109.bytes = 40 := _root_.id rfl
@[simp] theorem zero110 : Try.t110.zero = some (.agg #[]) := _root_.id rfl
@[simp] theorem bytes110 : Try.t110.bytes = 0 := _root_.id rfl
@[simp] theorem zero111 : Try.t111.zero = some (.agg #[]) := _root_.id rfl
@[simp] theorem bytes111 : Try.t111.bytes = 0 := _root_.id rfl
@[simp] theorem zero112 : Try.t112.zero = some (.agg #[]) := _root_.id rfl
@[simp] theorem bytes112 : Try.t112.bytes = 0 := _root_.id rfl
@[simp] theorem zero113 : Try.t113.zero = some (.int .u32 (0)) := _root_.id rfl
@[simp] theorem bytes113 : Try.t113.bytes = 4 := _root_.id rfl
@[simp] theorem zero114 : Try.t114.zero = some (.int .u8 (0)) := _root_.id rfl
@[simp] theorem bytes114 : Try.t114.bytes = 1 := _root_.id rfl
@[simp] theorem zero115 : Try.t115.zero = some (.int .u8 (0)) := _root_.id rfl
@[simp] theorem bytes115 : Try.t115.bytes = 1 := _root_.id rfl
@[simp] theorem zero116 : Try.t116.zero = some (.nilFunc) := _root_.id rfl
@[simp] theorem bytes116 : Try.t116.bytes = 8 := _root_.id rfl
@[simp] theorem zero117 : Try.t117.zero = some (.pointer none) := _root_.id rfl
@[simp] theorem bytes117 : Try.t117.bytes = 8 := _root_.id rfl
@[simp] theorem zero118 : Try.t118.zero = some (.int .i32 (0)) := _root_.id rfl
@[simp] theorem bytes118 : Try.t118.bytes = 4 := _root_.id rfl
@[simp] theorem zero119 : Try.t119.zero = some (.int .i32 (0)) := _root_.id rfl
@[simp] theorem bytes119 : Try.t119.bytes = 4 := _root_.id rfl
@[simp] theorem zero120 : Try.t120.zero = some (.agg #[.int .u64 (0), .int .u64 (0), .int .u32 (0), .int .u8 (0), .int .u8 (0), .int .u8 (0), .int .u8 (0), .nilFunc, .pointer none, .int .i32 (0), .int .i32 (0)]) := _root_.id rfl
@[simp] theorem bytes120 : Try.t120.bytes = 48 := _root_.id rfl
@[simp] theorem zero121 : Try.t121.zero = some (.agg #[.int .u64 (0), .int .u64 (0), .int .u32 (0), .int .u8 (0), .int .u8 (0), .int .u8 (0), .int .u8 (0), .nilFunc, .pointer none, .int .i32 (0), .int .i32 (0)]) := _root_.id rfl
@[simp] theorem bytes121 : Try.t121.bytes = 48 := _root_.id rfl
@[simp] theorem zero122 : Try.t122.zero = some (.pointer none) := _root_.id rfl
@[simp] theorem bytes122 : Try.t122.bytes = 8 := _root_.id rfl
@[simp] theorem isFn2 : isFn Try.prog 2 = true := by unfold isFn; rw [Try.func2]; rfl
@[simp] theorem isFn3 : isFn Try.prog 3 = true := by unfold isFn; rw [Try.func3]; rfl
@[simp] theorem isFn4 : isFn Try.prog 4 = true := by unfold isFn; rw [Try.func4]; rfl
@[simp] theorem isFn5 : isFn Try.prog 5 = true := by unfold isFn; rw [Try.func5]; rfl
@[simp] theorem isFn6 : isFn Try.prog 6 = true := by unfold isFn; rw [Try.func6]; rfl
@[simp] theorem isFn7 : isFn Try.prog 7 = true := by unfold isFn; rw [Try.func7]; rfl
@[simp] theorem isFn8 : isFn Try.prog 8 = true := by unfold isFn; rw [Try.func8]; rfl
@[simp] theorem isFn9 : isFn Try.prog 9 = true := by unfold isFn; rw [Try.func9]; rfl
@[simp] theorem isFn10 : isFn Try.prog 10 = true := by unfold isFn; rw [Try.func10]; rfl
@[simp] theorem isFn11 : isFn Try.prog 11 = true := by unfold isFn; rw [Try.func11]; rfl
@[simp] theorem isFn12 : isFn Try.prog 12 = true := by unfold isFn; rw [Try.func12]; rfl
@[simp] theorem isFn13 : isFn Try.prog 13 = true := by unfold isFn; rw [Try.func13]; rfl
@[simp] theorem isFn14 : isFn Try.prog 14 = true := by unfold isFn; rw [Try.func14]; rfl
@[simp] theorem isFn15 : isFn Try.prog 15 = true := by unfold isFn; rw [Try.func15]; rfl
@[simp] theorem isFn16 : isFn Try.prog 16 = true := by unfold isFn; rw [Try.func16]; rfl
@[simp] theorem isFn17 : isFn Try.prog 17 = true := by unfold isFn; rw [Try.func17]; rfl
@[simp] theorem isFn18 : isFn Try.prog 18 = true := by unfold isFn; rw [Try.func18]; rfl
@[simp] theorem isFn19 : isFn Try.prog 19 = true := by unfold isFn; rw [Try.func19]; rfl
@[simp] theorem isFn20 : isFn Try.prog 20 = true := by unfold isFn; rw [Try.func20]; rfl
@[simp] theorem isFn21 : isFn Try.prog 21 = true := by unfold isFn; rw [Try.func21]; rfl
@[simp] theorem isFn22 : isFn Try.prog 22 = true := by unfold isFn; rw [Try.func22]; rfl
@[simp] theorem isFn23 : isFn Try.prog 23 = true := by unfold isFn; rw [Try.func23]; rfl
@[simp] theorem isFn24 : isFn Try.prog 24 = true := by unfold isFn; rw [Try.func24]; rfl
@[simp] theorem isFn25 : isFn Try.prog 25 = true := by unfold isFn; rw [Try.func25]; rfl
@[simp] theorem isFn26 : isFn Try.prog 26 = true := by unfold isFn; rw [Try.func26]; rfl
@[simp] theorem isFn27 : isFn Try.prog 27 = true := by unfold isFn; rw [Try.func27]; rfl
@[simp] theorem isFn28 : isFn Try.prog 28 = true := by unfold isFn; rw [Try.func28]; rfl
@[simp] theorem isFn29 : isFn Try.prog 29 = true := by unfold isFn; rw [Try.func29]; rfl
@[simp] theorem isFn30 : isFn Try.prog 30 = true := by unfold isFn; rw [Try.func30]; rfl
@[simp] theorem isFn31 : isFn Try.prog 31 = true := by unfold isFn; rw [Try.func31]; rfl
@[simp] theorem isFn32 : isFn Try.prog 32 = true := by unfold isFn; rw [Try.func32]; rfl
@[simp] theorem isFn33 : isFn Try.prog 33 = true := by unfold isFn; rw [Try.func33]; rfl
@[simp] theorem isFn34 : isFn Try.prog 34 = true := by unfold isFn; rw [Try.func34]; rfl
@[simp] theorem isFn35 : isFn Try.prog 35 = true := by unfold isFn; rw [Try.func35]; rfl
@[simp] theorem isFn36 : isFn Try.prog 36 = true := by unfold isFn; rw [Try.func36]; rfl
@[simp] theorem isFn37 : isFn Try.prog 37 = true := by unfold isFn; rw [Try.func37]; rfl
@[simp] theorem isFn38 : isFn Try.prog 38 = true := by unfold isFn; rw [Try.func38]; rfl
@[simp] theorem isFn39 : isFn Try.prog 39 = true := by unfold isFn; rw [Try.func39]; rfl
@[simp] theorem isFn40 : isFn Try.prog 40 = true := by unfold isFn; rw [Try.func40]; rfl
@[simp] theorem isFn41 : isFn Try.prog 41 = true := by unfold isFn; rw [Try.func41]; rfl
@[simp] theorem isFn42 : isFn Try.prog 42 = true := by unfold isFn; rw [Try.func42]; rfl
@[simp] theorem isFn43 : isFn Try.prog 43 = true := by unfold isFn; rw [Try.func43]; rfl
@[simp] theorem isFn44 : isFn Try.prog 44 = true := by unfold isFn; rw [Try.func44]; rfl
@[simp] theorem isFn45 : isFn Try.prog 45 = true := by unfold isFn; rw [Try.func45]; rfl
@[simp] theorem isFn46 : isFn Try.prog 46 = true := by unfold isFn; rw [Try.func46]; rfl
@[simp] theorem isFn47 : isFn Try.prog 47 = true := by unfold isFn; rw [Try.func47]; rfl
@[simp] theorem isFn48 : isFn Try.prog 48 = true := by unfold isFn; rw [Try.func48]; rfl
@[simp] theorem isFn49 : isFn Try.prog 49 = true := by unfold isFn; rw [Try.func49]; rfl
@[simp] theorem isFn50 : isFn Try.prog 50 = true := by unfold isFn; rw [Try.func50]; rfl
@[simp] theorem isFn51 : isFn Try.prog 51 = true := by unfold isFn; rw [Try.func51]; rfl
@[simp] theorem isFn52 : isFn Try.prog 52 = true := by unfold isFn; rw [Try.func52]; rfl
@[simp] theorem isFn53 : isFn Try.prog 53 = true := by unfold isFn; rw [Try.func53]; rfl
@[simp] theorem isFn54 : isFn Try.prog 54 = true := by unfold isFn; rw [Try.func54]; rfl
@[simp] theorem isFn55 : isFn Try.prog 55 = true := by unfold isFn; rw [Try.func55]; rfl
@[simp] theorem isFn56 : isFn Try.prog 56 = true := by unfold isFn; rw [Try.func56]; rfl
@[simp] theorem isFn57 : isFn Try.prog 57 = true := by unfold isFn; rw [Try.func57]; rfl
@[simp] theorem isFn58 : isFn Try.prog 58 = true := by unfold isFn; rw [Try.func58]; rfl
@[simp] theorem isFn59 : isFn Try.prog 59 = true := by unfold isFn; rw [Try.func59]; rfl
@[simp] theorem isFn60 : isFn Try.prog 60 = true := by unfold isFn; rw [Try.func60]; rfl
@[simp] theorem isFn61 : isFn Try.prog 61 = true := by unfold isFn; rw [Try.func61]; rfl
@[simp] theorem isFn62 : isFn Try.prog 62 = true := by unfold isFn; rw [Try.func62]; rfl
@[simp] theorem isFn63 : isFn Try.prog 63 = true := by unfold isFn; rw [Try.func63]; rfl
@[simp] theorem isFn64 : isFn Try.prog 64 = true := by unfold isFn; rw [Try.func64]; rfl
@[simp] theorem isFn65 : isFn Try.prog 65 = true := by unfold isFn; rw [Try.func65]; rfl
@[simp] theorem isFn66 : isFn Try.prog 66 = true := by unfold isFn; rw [Try.func66]; rfl
@[simp] theorem isFn68 : isFn Try.prog 68 = true := by unfold isFn; rw [Try.func68]; rfl
@[simp] theorem isFn69 : isFn Try.prog 69 = true := by unfold isFn; rw [Try.func69]; rfl
@[simp] theorem isFn70 : isFn Try.prog 70 = true := by unfold isFn; rw [Try.func70]; rfl
attribute [simp] Try.underlying0 Try.underlying1 Try.underlying2 Try.underlying3 Try.underlying4 Try.underlying5 Try.underlying6 Try.underlying7 Try.underlying8 Try.underlying9 Try.underlying10 Try.underlying11 Try.underlying12 Try.underlying13 Try.underlying14 Try.underlying15 Try.underlying16 Try.underlying17 Try.underlying18 Try.underlying19 Try.underlying20 Try.underlying21 Try.underlying22 Try.underlying23 Try.underlying24 Try.underlying25 Try.underlying26 Try.underlying27 Try.underlying28 Try.underlying29 Try.underlying30 Try.underlying31 Try.underlying32 Try.underlying33 Try.underlying34 Try.underlying35 Try.underlying36 Try.underlying37 Try.underlying38 Try.underlying39 Try.underlying40 Try.underlying41 Try.underlying42 Try.underlying43 Try.underlying44 Try.underlying45 Try.underlying46 Try.underlying47 Try.underlying48 Try.underlying49 Try.underlying50 Try.underlying51 Try.underlying52 Try.underlying53 Try.underlying54 Try.underlying55 Try.underlying56 Try.underlying57 Try.underlying58 Try.underlying59 Try.underlying60 Try.underlying61 Try.underlying62 Try.underlying63 Try.underlying64 Try.underlying65 Try.underlying66 Try.underlying67 Try.underlying68 Try.underlying69 Try.underlying70 Try.underlying71 Try.underlying72 Try.underlying73 Try.underlying74 Try.underlying75 Try.underlying76 Try.underlying77 Try.underlying78 Try.underlying79 Try.underlying80 Try.underlying81 Try.underlying82 Try.underlying83 Try.underlying84 Try.underlying85 Try.underlying86 Try.underlying87 Try.underlying88 Try.underlying89 Try.underlying90 Try.underlying91 Try.underlying92 Try.underlying93 Try.underlying94 Try.underlying95 Try.underlying96 Try.underlying97 Try.underlying98 Try.underlying99 Try.underlying100 Try.underlying101 Try.underlying102 Try.underlying103 Try.underlying104 Try.underlying105 Try.underlying106 Try.underlying107 Try.underlying108 Try.underlying109 Try.underlying110 Try.underlying111 Try.underlying112 Try.underlying113 Try.underlying114 Try.underlying115 Try.underlying116 Try.underlying117 Try.underlying118 Try.underlying119 Try.underlying120 Try.underlying121 Try.underlying122
attribute [simp] Try.results2 Try.results3 Try.results4 Try.results5 Try.results6 Try.results7 Try.results8 Try.results9 Try.results10 Try.results11 Try.results12 Try.results13 Try.results14 Try.results15 Try.results16 Try.results17 Try.results18 Try.results19 Try.results20 Try.results21 Try.results22 Try.results23 Try.results24 Try.results25 Try.results26 Try.results27 Try.results28 Try.results29 Try.results30 Try.results31 Try.results32 Try.results33 Try.results34 Try.results35 Try.results36 Try.results37 Try.results38 Try.results39 Try.results40 Try.results41 Try.results42 Try.results43 Try.results44 Try.results45 Try.results46 Try.results47 Try.results48 Try.results49 Try.results50 Try.results51 Try.results52 Try.results53 Try.results54 Try.results55 Try.results56 Try.results57 Try.results58 Try.results59 Try.results60 Try.results61 Try.results62 Try.results63 Try.results64 Try.results65 Try.results66 Try.results68 Try.results69 Try.results70
end Go.Proofs.Ytmmmdmandocbhaa
end
