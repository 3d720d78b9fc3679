/-
  The run of function 29 in parts: part 6, 9 steps, and the state behind it.
-/
import Derived.Test.YtkidamemnogojaaGreatDoorLivesP5
namespace Go.Proofs.YtkidamemnogojaaGreatDoor
open Go.Ex
noncomputable def livesB442 : Blk := (.cells true false (some (nat_lit 25)) [(.sl (nat_lit 494) (nat_lit 0) (nat_lit 2) none (nat_lit 2))])
noncomputable def livesRB443 : Tr Blk := Tr.nd Tr.lf none (Tr.nd Tr.lf (some livesB442) Tr.lf)
noncomputable def livesRB444 : Tr Blk := Tr.nd Tr.lf none livesRB443
noncomputable def livesRB445 : Tr Blk := Tr.nd livesRB139 none livesRB444
noncomputable def livesRB446 : Tr Blk := Tr.nd livesRB187 (some livesB1) livesRB445
noncomputable def livesRB447 : Tr Blk := Tr.nd livesRB446 none livesRB319
noncomputable def livesRB448 : Tr Blk := Tr.nd livesRB447 (some livesB8) livesRB325
noncomputable def livesRB449 : Tr Blk := Tr.nd livesRB448 (some livesB21) livesRB339
noncomputable def livesB450 : Blk := (.cells true true (some (nat_lit 9)) [(.str [(nat_lit 32), (nat_lit 65), (nat_lit 32)])])
noncomputable def livesRB451 : Tr Blk := Tr.nd Tr.lf none (Tr.nd Tr.lf (some livesB450) Tr.lf)
noncomputable def livesRB452 : Tr Blk := Tr.nd (Tr.nd Tr.lf (some livesB228) Tr.lf) none livesRB451
noncomputable def livesRB453 : Tr Blk := Tr.nd livesRB227 none livesRB452
noncomputable def livesRB454 : Tr Blk := Tr.nd livesRB453 (some livesB23) livesRB343
noncomputable def livesRB455 : Tr Blk := Tr.nd livesRB226 none livesRB454
noncomputable def livesRB456 : Tr Blk := Tr.nd Tr.lf none (Tr.nd Tr.lf (some livesB0) Tr.lf)
noncomputable def livesRB457 : Tr Blk := Tr.nd Tr.lf none livesRB456
noncomputable def livesRB458 : Tr Blk := Tr.nd livesRB237 none livesRB457
noncomputable def livesRB459 : Tr Blk := Tr.nd livesRB458 none livesRB352
noncomputable def livesRB460 : Tr Blk := Tr.nd livesRB349 (some livesB28) livesRB459
noncomputable def livesRB461 : Tr Blk := Tr.nd livesRB455 none livesRB460
noncomputable def livesB462 : Blk := (.cells true true (some (nat_lit 51)) [(.str [(nat_lit 99), (nat_lit 110)]), (.sl (nat_lit 488) (nat_lit 0) (nat_lit 1) none (nat_lit 1)), (.str [(nat_lit 111), (nat_lit 98), (nat_lit 106), (nat_lit 101), (nat_lit 99), (nat_lit 116), (nat_lit 67), (nat_lit 108), (nat_lit 97), (nat_lit 115), (nat_lit 115)]), (.sl (nat_lit 492) (nat_lit 0) (nat_lit 1) none (nat_lit 1))])
noncomputable def livesRB463 : Tr Blk := Tr.nd Tr.lf none (Tr.nd Tr.lf (some livesB462) Tr.lf)
noncomputable def livesRB464 : Tr Blk := Tr.nd Tr.lf none livesRB463
noncomputable def livesRB465 : Tr Blk := Tr.nd livesRB206 none livesRB464
noncomputable def livesRB466 : Tr Blk := Tr.nd livesRB465 none livesRB196
noncomputable def livesRB467 : Tr Blk := Tr.nd livesRB172 (some livesB36) livesRB466
noncomputable def livesRB468 : Tr Blk := Tr.nd livesRB364 none livesRB467
noncomputable def livesRB469 : Tr Blk := Tr.nd livesRB461 (some livesB39) livesRB468
noncomputable def livesRB470 : Tr Blk := Tr.nd livesRB449 none livesRB469
noncomputable def livesV471 : AV := (.ptr (nat_lit 495) (nat_lit 0))
noncomputable def livesRV472 : Tr AV := Tr.nd livesRV396 (some livesV471) (Tr.nd Tr.lf (some livesV378) Tr.lf)
noncomputable def livesV473 : AV := (.tup [(.agg [(.sl (nat_lit 494) (nat_lit 0) (nat_lit 2) none (nat_lit 2))]), (.int .i64 (.ofNat (nat_lit 0))), (.int .i64 (.ofNat (nat_lit 0)))])
noncomputable def livesRV474 : Tr AV := Tr.nd (Tr.nd Tr.lf (some livesV42) Tr.lf) (some livesV371) (Tr.nd Tr.lf (some livesV473) Tr.lf)
noncomputable def livesRV475 : Tr AV := Tr.nd livesRV472 (some livesV373) livesRV474
noncomputable def livesRV476 : Tr AV := Tr.nd (Tr.nd Tr.lf (some livesV369) Tr.lf) (some livesV376) (Tr.nd Tr.lf (some livesV46) Tr.lf)
noncomputable def livesRV477 : Tr AV := Tr.nd livesRV416 (some livesV76) livesRV476
noncomputable def livesRV478 : Tr AV := Tr.nd livesRV475 (some livesV378) livesRV477
noncomputable def livesRV479 : Tr AV := Tr.nd (Tr.nd Tr.lf (some livesV42) Tr.lf) (some livesV380) Tr.lf
noncomputable def livesRV480 : Tr AV := Tr.nd livesRV479 (some livesV42) (Tr.nd Tr.lf (some livesV42) Tr.lf)
noncomputable def livesRV481 : Tr AV := Tr.nd Tr.lf (some livesV382) (Tr.nd Tr.lf (some livesV369) Tr.lf)
noncomputable def livesRV482 : Tr AV := Tr.nd livesRV480 (some livesV42) livesRV481
noncomputable def livesRV483 : Tr AV := Tr.nd (Tr.nd Tr.lf (some livesV422) Tr.lf) (some livesV76) (Tr.nd Tr.lf (some livesV473) Tr.lf)
noncomputable def livesRV484 : Tr AV := Tr.nd livesRV385 (some livesV42) livesRV483
noncomputable def livesRV485 : Tr AV := Tr.nd livesRV482 none livesRV484
noncomputable def livesRV486 : Tr AV := Tr.nd livesRV478 (some livesV382) livesRV485
noncomputable def livesRV487 : Tr AV := Tr.nd livesRV372 (some livesV42) (Tr.nd Tr.lf (some livesV427) Tr.lf)
noncomputable def livesRV488 : Tr AV := Tr.nd (Tr.nd Tr.lf (some livesV76) Tr.lf) (some livesV380) (Tr.nd Tr.lf (some livesV369) Tr.lf)
noncomputable def livesRV489 : Tr AV := Tr.nd livesRV487 (some livesV42) livesRV488
noncomputable def livesRV490 : Tr AV := Tr.nd (Tr.nd Tr.lf (some livesV369) Tr.lf) (some livesV76) (Tr.nd Tr.lf (some livesV378) Tr.lf)
noncomputable def livesRV491 : Tr AV := Tr.nd livesRV430 (some livesV42) livesRV490
noncomputable def livesRV492 : Tr AV := Tr.nd livesRV489 none livesRV491
noncomputable def livesRV493 : Tr AV := Tr.nd (Tr.nd Tr.lf (some livesV76) Tr.lf) (some livesV42) Tr.lf
noncomputable def livesRV494 : Tr AV := Tr.nd livesRV493 (some livesV369) (Tr.nd Tr.lf (some livesV42) Tr.lf)
noncomputable def livesRV495 : Tr AV := Tr.nd (Tr.nd Tr.lf (some livesV427) Tr.lf) (some livesV392) (Tr.nd Tr.lf (some livesV422) Tr.lf)
noncomputable def livesRV496 : Tr AV := Tr.nd livesRV494 (some livesV397) livesRV495
noncomputable def livesV497 : AV := (.agg [(.sl (nat_lit 494) (nat_lit 0) (nat_lit 2) none (nat_lit 2))])
noncomputable def livesRV498 : Tr AV := Tr.nd (Tr.nd Tr.lf (some livesV46) Tr.lf) (some livesV369) (Tr.nd Tr.lf (some livesV497) Tr.lf)
noncomputable def livesRV499 : Tr AV := Tr.nd livesRV396 (some livesV42) livesRV498
noncomputable def livesRV500 : Tr AV := Tr.nd livesRV496 (some livesV400) livesRV499
noncomputable def livesRV501 : Tr AV := Tr.nd livesRV492 (some livesV384) livesRV500
noncomputable def livesRV502 : Tr AV := Tr.nd livesRV486 (some livesV369) livesRV501
noncomputable def livesH6 : Tr Blk := livesRB470
noncomputable def livesS6 : St := ⟨⟨16, 87, livesRV502, [.code (navC [1, 1, 1, 1, 1, 1, 1, 1] (bodyOf Tryz.prog 16))], [], none, false⟩, [⟨30, 27, livesRV413, [.inReg (livesOps (navC [1, 1, 1, 1, 0] (bodyOf Tryz.prog 30))) 3 ((livesOps (navC [1, 1, 1, 1, 0] (bodyOf Tryz.prog 30))).toList.drop 3), .code (navC [1, 1, 1, 1, 1] (bodyOf Tryz.prog 30))], [], none, false⟩, ⟨29, 51, (Tr.nd Tr.lf (some livesV76) Tr.lf), [.inReg (livesOps (navC [1, 0] (bodyOf Tryz.prog 29))) 0 ((livesOps (navC [1, 0] (bodyOf Tryz.prog 29))).toList.drop 0), .code (navC [1, 1] (bodyOf Tryz.prog 29))], [], none, false⟩], livesH6, 496, 0, []⟩
theorem lives_p6 : keepR [1, 2, 3, 12, 13, 14, 15, 16, 17, 22, 24, 27, 29, 31, 33, 34, 35, 36, 138, 143, 144, 155, 164, 166, 167, 168, 188, 189, 190, 191, 192, 193, 194, 200, 201, 202, 203, 204, 205, 206, 208, 209, 210, 212, 213, 215, 216, 217, 218, 219, 220, 488, 492, 494, 495] (runTo Tryz.prog 11 ext3 livesJ 20000 9 livesS5) = some livesS6 := by kernel_rfl
end Go.Proofs.YtkidamemnogojaaGreatDoor
