/-
  The run of function 6 in parts: part 5, 9 steps, and the state behind it.
-/
import Derived.Test.YtkidamemnogojaaGreatDoorSknP4
namespace Go.Proofs.YtkidamemnogojaaGreatDoor
open Go.Ex
noncomputable def sknRV414 : Tr AV := Tr.nd (Tr.nd Tr.lf (some sknV369) Tr.lf) none (Tr.nd Tr.lf (some sknV378) Tr.lf)
noncomputable def sknRV415 : Tr AV := Tr.nd sknRV414 (some sknV373) sknRV372
noncomputable def sknRV416 : Tr AV := Tr.nd (Tr.nd Tr.lf (some sknV76) Tr.lf) (some sknV76) (Tr.nd Tr.lf (some sknV42) Tr.lf)
noncomputable def sknRV417 : Tr AV := Tr.nd (Tr.nd Tr.lf (some sknV369) Tr.lf) (some sknV376) Tr.lf
noncomputable def sknRV418 : Tr AV := Tr.nd sknRV416 (some sknV76) sknRV417
noncomputable def sknRV419 : Tr AV := Tr.nd sknRV415 (some sknV378) sknRV418
noncomputable def sknRV420 : Tr AV := Tr.nd (Tr.nd Tr.lf (some sknV380) Tr.lf) none (Tr.nd Tr.lf (some sknV42) Tr.lf)
noncomputable def sknRV421 : Tr AV := Tr.nd sknRV420 (some sknV42) (Tr.nd Tr.lf (some sknV382) Tr.lf)
noncomputable def sknV422 : AV := (.ptr (nat_lit 210) (nat_lit 1))
noncomputable def sknRV423 : Tr AV := Tr.nd (Tr.nd Tr.lf (some sknV422) Tr.lf) (some sknV76) Tr.lf
noncomputable def sknRV424 : Tr AV := Tr.nd sknRV385 (some sknV42) sknRV423
noncomputable def sknRV425 : Tr AV := Tr.nd sknRV421 none sknRV424
noncomputable def sknRV426 : Tr AV := Tr.nd sknRV419 (some sknV382) sknRV425
noncomputable def sknV427 : AV := (.tup [(.int .i64 (.ofNat (nat_lit 0))), (.int .i64 (.ofNat (nat_lit 0)))])
noncomputable def sknRV428 : Tr AV := Tr.nd (Tr.nd Tr.lf (some sknV371) Tr.lf) none (Tr.nd Tr.lf (some sknV427) Tr.lf)
noncomputable def sknRV429 : Tr AV := Tr.nd sknRV428 (some sknV42) sknRV390
noncomputable def sknRV430 : Tr AV := Tr.nd (Tr.nd Tr.lf (some sknV369) Tr.lf) (some sknV392) (Tr.nd Tr.lf (some sknV76) Tr.lf)
noncomputable def sknRV431 : Tr AV := Tr.nd (Tr.nd Tr.lf (some sknV369) Tr.lf) (some sknV76) Tr.lf
noncomputable def sknRV432 : Tr AV := Tr.nd sknRV430 (some sknV42) sknRV431
noncomputable def sknRV433 : Tr AV := Tr.nd sknRV429 none sknRV432
noncomputable def sknRV434 : Tr AV := Tr.nd (Tr.nd Tr.lf (some sknV42) Tr.lf) (some sknV369) (Tr.nd Tr.lf (some sknV42) Tr.lf)
noncomputable def sknRV435 : Tr AV := Tr.nd (Tr.nd Tr.lf (some sknV427) Tr.lf) (some sknV392) Tr.lf
noncomputable def sknRV436 : Tr AV := Tr.nd sknRV434 (some sknV397) sknRV435
noncomputable def sknRV437 : Tr AV := Tr.nd (Tr.nd Tr.lf (some sknV46) Tr.lf) (some sknV369) Tr.lf
noncomputable def sknRV438 : Tr AV := Tr.nd sknRV396 (some sknV42) sknRV437
noncomputable def sknRV439 : Tr AV := Tr.nd sknRV436 (some sknV400) sknRV438
noncomputable def sknRV440 : Tr AV := Tr.nd sknRV433 (some sknV384) sknRV439
noncomputable def sknRV441 : Tr AV := Tr.nd sknRV426 (some sknV369) sknRV440
noncomputable def sknH5 : Tr Blk := sknRB368
noncomputable def sknS5 : St := ⟨⟨16, 87, sknRV441, [.code (navC [1, 1, 1, 1, 1, 1] (bodyOf Tryz.prog 16))], [], none, false⟩, [⟨30, 27, sknRV413, [.inReg (sknOps (navC [1, 1, 1, 1, 0] (bodyOf Tryz.prog 30))) 3 ((sknOps (navC [1, 1, 1, 1, 0] (bodyOf Tryz.prog 30))).toList.drop 3), .code (navC [1, 1, 1, 1, 1] (bodyOf Tryz.prog 30))], [], none, false⟩, ⟨6, 175, (Tr.nd Tr.lf (some sknV76) Tr.lf), [.inReg (sknOps (navC [1, 0] (bodyOf Tryz.prog 6))) 0 ((sknOps (navC [1, 0] (bodyOf Tryz.prog 6))).toList.drop 0), .code (navC [1, 1] (bodyOf Tryz.prog 6))], [], none, false⟩], sknH5, 383, 0, []⟩
theorem skn_p5 : keepR [1, 2, 3, 12, 13, 14, 15, 16, 17, 22, 24, 27, 29, 31, 33, 34, 35, 36, 138, 143, 144, 155, 164, 166, 167, 168, 188, 189, 190, 191, 192, 193, 194, 200, 201, 202, 203, 204, 205, 206, 208, 209, 210, 212, 213, 215, 216, 217, 218, 219, 220] (runTo Tryz.prog 11 ext5 sknJ 20000 9 sknS4) = some sknS5 := by kernel_rfl
end Go.Proofs.YtkidamemnogojaaGreatDoor
