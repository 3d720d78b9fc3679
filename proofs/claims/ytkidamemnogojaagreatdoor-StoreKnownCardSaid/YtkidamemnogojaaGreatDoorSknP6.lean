/-
  The run of function 6 in parts: part 6, 9 steps, and the state behind it.
-/
import Derived.Test.YtkidamemnogojaaGreatDoorSknP5
namespace Go.Proofs.YtkidamemnogojaaGreatDoor
open Go.Ex
noncomputable def sknB442 : Blk := (.cells true false (some (nat_lit 25)) [(.sl (nat_lit 494) (nat_lit 0) (nat_lit 2) none (nat_lit 2))])
noncomputable def sknRB443 : Tr Blk := Tr.nd Tr.lf none (Tr.nd Tr.lf (some sknB442) Tr.lf)
noncomputable def sknRB444 : Tr Blk := Tr.nd Tr.lf none sknRB443
noncomputable def sknRB445 : Tr Blk := Tr.nd sknRB139 none sknRB444
noncomputable def sknRB446 : Tr Blk := Tr.nd sknRB187 (some sknB1) sknRB445
noncomputable def sknRB447 : Tr Blk := Tr.nd sknRB446 none sknRB319
noncomputable def sknRB448 : Tr Blk := Tr.nd sknRB447 (some sknB8) sknRB325
noncomputable def sknRB449 : Tr Blk := Tr.nd sknRB448 (some sknB21) sknRB339
noncomputable def sknB450 : Blk := (.cells true true (some (nat_lit 9)) [(.str [(nat_lit 32), (nat_lit 65), (nat_lit 32)])])
noncomputable def sknRB451 : Tr Blk := Tr.nd Tr.lf none (Tr.nd Tr.lf (some sknB450) Tr.lf)
noncomputable def sknRB452 : Tr Blk := Tr.nd (Tr.nd Tr.lf (some sknB228) Tr.lf) none sknRB451
noncomputable def sknRB453 : Tr Blk := Tr.nd sknRB227 none sknRB452
noncomputable def sknRB454 : Tr Blk := Tr.nd sknRB453 (some sknB23) sknRB343
noncomputable def sknRB455 : Tr Blk := Tr.nd sknRB226 none sknRB454
noncomputable def sknRB456 : Tr Blk := Tr.nd Tr.lf none (Tr.nd Tr.lf (some sknB0) Tr.lf)
noncomputable def sknRB457 : Tr Blk := Tr.nd Tr.lf none sknRB456
noncomputable def sknRB458 : Tr Blk := Tr.nd sknRB237 none sknRB457
noncomputable def sknRB459 : Tr Blk := Tr.nd sknRB458 none sknRB352
noncomputable def sknRB460 : Tr Blk := Tr.nd sknRB349 (some sknB28) sknRB459
noncomputable def sknRB461 : Tr Blk := Tr.nd sknRB455 none sknRB460
noncomputable def sknB462 : Blk := (.cells true true (some (nat_lit 51)) [(.str [(nat_lit 99), (nat_lit 110)]), (.sl (nat_lit 488) (nat_lit 0) (nat_lit 1) none (nat_lit 1)), (.str [(nat_lit 111), (nat_lit 98), (nat_lit 106), (nat_lit 101), (nat_lit 99), (nat_lit 116), (nat_lit 67), (nat_lit 108), (nat_lit 97), (nat_lit 115), (nat_lit 115)]), (.sl (nat_lit 492) (nat_lit 0) (nat_lit 1) none (nat_lit 1))])
noncomputable def sknRB463 : Tr Blk := Tr.nd Tr.lf none (Tr.nd Tr.lf (some sknB462) Tr.lf)
noncomputable def sknRB464 : Tr Blk := Tr.nd Tr.lf none sknRB463
noncomputable def sknRB465 : Tr Blk := Tr.nd sknRB206 none sknRB464
noncomputable def sknRB466 : Tr Blk := Tr.nd sknRB465 none sknRB196
noncomputable def sknRB467 : Tr Blk := Tr.nd sknRB172 (some sknB36) sknRB466
noncomputable def sknRB468 : Tr Blk := Tr.nd sknRB364 none sknRB467
noncomputable def sknRB469 : Tr Blk := Tr.nd sknRB461 (some sknB39) sknRB468
noncomputable def sknRB470 : Tr Blk := Tr.nd sknRB449 none sknRB469
noncomputable def sknV471 : AV := (.ptr (nat_lit 495) (nat_lit 0))
noncomputable def sknRV472 : Tr AV := Tr.nd sknRV396 (some sknV471) (Tr.nd Tr.lf (some sknV378) Tr.lf)
noncomputable def sknV473 : AV := (.tup [(.agg [(.sl (nat_lit 494) (nat_lit 0) (nat_lit 2) none (nat_lit 2))]), (.int .i64 (.ofNat (nat_lit 0))), (.int .i64 (.ofNat (nat_lit 0)))])
noncomputable def sknRV474 : Tr AV := Tr.nd (Tr.nd Tr.lf (some sknV42) Tr.lf) (some sknV371) (Tr.nd Tr.lf (some sknV473) Tr.lf)
noncomputable def sknRV475 : Tr AV := Tr.nd sknRV472 (some sknV373) sknRV474
noncomputable def sknRV476 : Tr AV := Tr.nd (Tr.nd Tr.lf (some sknV369) Tr.lf) (some sknV376) (Tr.nd Tr.lf (some sknV46) Tr.lf)
noncomputable def sknRV477 : Tr AV := Tr.nd sknRV416 (some sknV76) sknRV476
noncomputable def sknRV478 : Tr AV := Tr.nd sknRV475 (some sknV378) sknRV477
noncomputable def sknRV479 : Tr AV := Tr.nd (Tr.nd Tr.lf (some sknV42) Tr.lf) (some sknV380) Tr.lf
noncomputable def sknRV480 : Tr AV := Tr.nd sknRV479 (some sknV42) (Tr.nd Tr.lf (some sknV42) Tr.lf)
noncomputable def sknRV481 : Tr AV := Tr.nd Tr.lf (some sknV382) (Tr.nd Tr.lf (some sknV369) Tr.lf)
noncomputable def sknRV482 : Tr AV := Tr.nd sknRV480 (some sknV42) sknRV481
noncomputable def sknRV483 : Tr AV := Tr.nd (Tr.nd Tr.lf (some sknV422) Tr.lf) (some sknV76) (Tr.nd Tr.lf (some sknV473) Tr.lf)
noncomputable def sknRV484 : Tr AV := Tr.nd sknRV385 (some sknV42) sknRV483
noncomputable def sknRV485 : Tr AV := Tr.nd sknRV482 none sknRV484
noncomputable def sknRV486 : Tr AV := Tr.nd sknRV478 (some sknV382) sknRV485
noncomputable def sknRV487 : Tr AV := Tr.nd sknRV372 (some sknV42) (Tr.nd Tr.lf (some sknV427) Tr.lf)
noncomputable def sknRV488 : Tr AV := Tr.nd (Tr.nd Tr.lf (some sknV76) Tr.lf) (some sknV380) (Tr.nd Tr.lf (some sknV369) Tr.lf)
noncomputable def sknRV489 : Tr AV := Tr.nd sknRV487 (some sknV42) sknRV488
noncomputable def sknRV490 : Tr AV := Tr.nd (Tr.nd Tr.lf (some sknV369) Tr.lf) (some sknV76) (Tr.nd Tr.lf (some sknV378) Tr.lf)
noncomputable def sknRV491 : Tr AV := Tr.nd sknRV430 (some sknV42) sknRV490
noncomputable def sknRV492 : Tr AV := Tr.nd sknRV489 none sknRV491
noncomputable def sknRV493 : Tr AV := Tr.nd (Tr.nd Tr.lf (some sknV76) Tr.lf) (some sknV42) Tr.lf
noncomputable def sknRV494 : Tr AV := Tr.nd sknRV493 (some sknV369) (Tr.nd Tr.lf (some sknV42) Tr.lf)
noncomputable def sknRV495 : Tr AV := Tr.nd (Tr.nd Tr.lf (some sknV427) Tr.lf) (some sknV392) (Tr.nd Tr.lf (some sknV422) Tr.lf)
noncomputable def sknRV496 : Tr AV := Tr.nd sknRV494 (some sknV397) sknRV495
noncomputable def sknV497 : AV := (.agg [(.sl (nat_lit 494) (nat_lit 0) (nat_lit 2) none (nat_lit 2))])
noncomputable def sknRV498 : Tr AV := Tr.nd (Tr.nd Tr.lf (some sknV46) Tr.lf) (some sknV369) (Tr.nd Tr.lf (some sknV497) Tr.lf)
noncomputable def sknRV499 : Tr AV := Tr.nd sknRV396 (some sknV42) sknRV498
noncomputable def sknRV500 : Tr AV := Tr.nd sknRV496 (some sknV400) sknRV499
noncomputable def sknRV501 : Tr AV := Tr.nd sknRV492 (some sknV384) sknRV500
noncomputable def sknRV502 : Tr AV := Tr.nd sknRV486 (some sknV369) sknRV501
noncomputable def sknH6 : Tr Blk := sknRB470
noncomputable def sknS6 : St := ⟨⟨16, 87, sknRV502, [.code (navC [1, 1, 1, 1, 1, 1, 1, 1] (bodyOf Tryz.prog 16))], [], none, false⟩, [⟨30, 27, sknRV413, [.inReg (sknOps (navC [1, 1, 1, 1, 0] (bodyOf Tryz.prog 30))) 3 ((sknOps (navC [1, 1, 1, 1, 0] (bodyOf Tryz.prog 30))).toList.drop 3), .code (navC [1, 1, 1, 1, 1] (bodyOf Tryz.prog 30))], [], none, false⟩, ⟨6, 175, (Tr.nd Tr.lf (some sknV76) Tr.lf), [.inReg (sknOps (navC [1, 0] (bodyOf Tryz.prog 6))) 0 ((sknOps (navC [1, 0] (bodyOf Tryz.prog 6))).toList.drop 0), .code (navC [1, 1] (bodyOf Tryz.prog 6))], [], none, false⟩], sknH6, 496, 0, []⟩
theorem skn_p6 : keepR [1, 2, 3, 12, 13, 14, 15, 16, 17, 22, 24, 27, 29, 31, 33, 34, 35, 36, 138, 143, 144, 155, 164, 166, 167, 168, 188, 189, 190, 191, 192, 193, 194, 200, 201, 202, 203, 204, 205, 206, 208, 209, 210, 212, 213, 215, 216, 217, 218, 219, 220, 488, 492, 494, 495] (runTo Tryz.prog 11 ext5 sknJ 20000 9 sknS5) = some sknS6 := by kernel_rfl
end Go.Proofs.YtkidamemnogojaaGreatDoor
