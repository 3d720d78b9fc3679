/-
  The run of function 29 in parts: part 5, 9 steps, and the state behind it.
-/
import Derived.Test.YtkidamemnogojaaGreatDoorLivesP4
namespace Go.Proofs.YtkidamemnogojaaGreatDoor
open Go.Ex
noncomputable def livesRV414 : Tr AV := Tr.nd (Tr.nd Tr.lf (some livesV369) Tr.lf) none (Tr.nd Tr.lf (some livesV378) Tr.lf)
noncomputable def livesRV415 : Tr AV := Tr.nd livesRV414 (some livesV373) livesRV372
noncomputable def livesRV416 : Tr AV := Tr.nd (Tr.nd Tr.lf (some livesV76) Tr.lf) (some livesV76) (Tr.nd Tr.lf (some livesV42) Tr.lf)
noncomputable def livesRV417 : Tr AV := Tr.nd (Tr.nd Tr.lf (some livesV369) Tr.lf) (some livesV376) Tr.lf
noncomputable def livesRV418 : Tr AV := Tr.nd livesRV416 (some livesV76) livesRV417
noncomputable def livesRV419 : Tr AV := Tr.nd livesRV415 (some livesV378) livesRV418
noncomputable def livesRV420 : Tr AV := Tr.nd (Tr.nd Tr.lf (some livesV380) Tr.lf) none (Tr.nd Tr.lf (some livesV42) Tr.lf)
noncomputable def livesRV421 : Tr AV := Tr.nd livesRV420 (some livesV42) (Tr.nd Tr.lf (some livesV382) Tr.lf)
noncomputable def livesV422 : AV := (.ptr (nat_lit 210) (nat_lit 1))
noncomputable def livesRV423 : Tr AV := Tr.nd (Tr.nd Tr.lf (some livesV422) Tr.lf) (some livesV76) Tr.lf
noncomputable def livesRV424 : Tr AV := Tr.nd livesRV385 (some livesV42) livesRV423
noncomputable def livesRV425 : Tr AV := Tr.nd livesRV421 none livesRV424
noncomputable def livesRV426 : Tr AV := Tr.nd livesRV419 (some livesV382) livesRV425
noncomputable def livesV427 : AV := (.tup [(.int .i64 (.ofNat (nat_lit 0))), (.int .i64 (.ofNat (nat_lit 0)))])
noncomputable def livesRV428 : Tr AV := Tr.nd (Tr.nd Tr.lf (some livesV371) Tr.lf) none (Tr.nd Tr.lf (some livesV427) Tr.lf)
noncomputable def livesRV429 : Tr AV := Tr.nd livesRV428 (some livesV42) livesRV390
noncomputable def livesRV430 : Tr AV := Tr.nd (Tr.nd Tr.lf (some livesV369) Tr.lf) (some livesV392) (Tr.nd Tr.lf (some livesV76) Tr.lf)
noncomputable def livesRV431 : Tr AV := Tr.nd (Tr.nd Tr.lf (some livesV369) Tr.lf) (some livesV76) Tr.lf
noncomputable def livesRV432 : Tr AV := Tr.nd livesRV430 (some livesV42) livesRV431
noncomputable def livesRV433 : Tr AV := Tr.nd livesRV429 none livesRV432
noncomputable def livesRV434 : Tr AV := Tr.nd (Tr.nd Tr.lf (some livesV42) Tr.lf) (some livesV369) (Tr.nd Tr.lf (some livesV42) Tr.lf)
noncomputable def livesRV435 : Tr AV := Tr.nd (Tr.nd Tr.lf (some livesV427) Tr.lf) (some livesV392) Tr.lf
noncomputable def livesRV436 : Tr AV := Tr.nd livesRV434 (some livesV397) livesRV435
noncomputable def livesRV437 : Tr AV := Tr.nd (Tr.nd Tr.lf (some livesV46) Tr.lf) (some livesV369) Tr.lf
noncomputable def livesRV438 : Tr AV := Tr.nd livesRV396 (some livesV42) livesRV437
noncomputable def livesRV439 : Tr AV := Tr.nd livesRV436 (some livesV400) livesRV438
noncomputable def livesRV440 : Tr AV := Tr.nd livesRV433 (some livesV384) livesRV439
noncomputable def livesRV441 : Tr AV := Tr.nd livesRV426 (some livesV369) livesRV440
noncomputable def livesH5 : Tr Blk := livesRB368
noncomputable def livesS5 : St := ⟨⟨16, 87, livesRV441, [.code (navC [1, 1, 1, 1, 1, 1] (bodyOf Tryz.prog 16))], [], none, false⟩, [⟨30, 27, livesRV413, [.inReg (livesOps (navC [1, 1, 1, 1, 0] (bodyOf Tryz.prog 30))) 3 ((livesOps (navC [1, 1, 1, 1, 0] (bodyOf Tryz.prog 30))).toList.drop 3), .code (navC [1, 1, 1, 1, 1] (bodyOf Tryz.prog 30))], [], none, false⟩, ⟨29, 51, (Tr.nd Tr.lf (some livesV76) Tr.lf), [.inReg (livesOps (navC [1, 0] (bodyOf Tryz.prog 29))) 0 ((livesOps (navC [1, 0] (bodyOf Tryz.prog 29))).toList.drop 0), .code (navC [1, 1] (bodyOf Tryz.prog 29))], [], none, false⟩], livesH5, 383, 0, []⟩
theorem lives_p5 : keepR [1, 2, 3, 12, 13, 14, 15, 16, 17, 22, 24, 27, 29, 31, 33, 34, 35, 36, 138, 143, 144, 155, 164, 166, 167, 168, 188, 189, 190, 191, 192, 193, 194, 200, 201, 202, 203, 204, 205, 206, 208, 209, 210, 212, 213, 215, 216, 217, 218, 219, 220] (runTo Tryz.prog 11 ext3 livesJ 20000 9 livesS4) = some livesS5 := by kernel_rfl
end Go.Proofs.YtkidamemnogojaaGreatDoor
