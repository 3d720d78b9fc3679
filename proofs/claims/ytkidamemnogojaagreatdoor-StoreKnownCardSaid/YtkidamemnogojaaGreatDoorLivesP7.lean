/-
  The run of function 29 in parts: part 7, 12 steps, and the state behind it.
-/
import Derived.Test.YtkidamemnogojaaGreatDoorLivesP6
namespace Go.Proofs.YtkidamemnogojaaGreatDoor
open Go.Ex
noncomputable def livesB503 : Blk := (.map true [((.int .u64 (.ofNat (nat_lit 7))), (.agg [(.sl (nat_lit 517) (nat_lit 0) (nat_lit 2) none (nat_lit 2))]), (nat_lit 0))] (nat_lit 1))
noncomputable def livesRB504 : Tr Blk := Tr.nd (Tr.nd Tr.lf (some livesB503) Tr.lf) none Tr.lf
noncomputable def livesRB505 : Tr Blk := Tr.nd Tr.lf none livesRB504
noncomputable def livesB506 : Blk := (.cells true false none [(.str [(nat_lit 97)]), (.map (nat_lit 662))])
noncomputable def livesRB507 : Tr Blk := Tr.nd (Tr.nd Tr.lf (some livesB506) Tr.lf) none Tr.lf
noncomputable def livesRB508 : Tr Blk := Tr.nd Tr.lf none livesRB507
noncomputable def livesRB509 : Tr Blk := Tr.nd livesRB508 none (Tr.nd Tr.lf (some livesB1) Tr.lf)
noncomputable def livesRB510 : Tr Blk := Tr.nd livesRB509 none Tr.lf
noncomputable def livesRB511 : Tr Blk := Tr.nd livesRB505 none livesRB510
noncomputable def livesRB512 : Tr Blk := Tr.nd livesRB316 none livesRB511
noncomputable def livesRB513 : Tr Blk := Tr.nd livesRB250 none Tr.lf
noncomputable def livesRB514 : Tr Blk := Tr.nd livesRB513 none Tr.lf
noncomputable def livesRB515 : Tr Blk := Tr.nd livesRB514 (some livesB4) Tr.lf
noncomputable def livesRB516 : Tr Blk := Tr.nd livesRB515 none Tr.lf
noncomputable def livesRB517 : Tr Blk := Tr.nd livesRB516 none livesRB202
noncomputable def livesRB518 : Tr Blk := Tr.nd livesRB512 (some livesB8) livesRB517
noncomputable def livesB519 : Blk := (.map true [((.int .u64 (.ofNat (nat_lit 7))), (.agg [(.int .u64 (.ofNat (nat_lit 7))), (.sl (nat_lit 502) (nat_lit 0) (nat_lit 1) none (nat_lit 1)), (.sl (nat_lit 494) (nat_lit 0) (nat_lit 2) none (nat_lit 2))]), (nat_lit 0))] (nat_lit 1))
noncomputable def livesRB520 : Tr Blk := Tr.nd Tr.lf none (Tr.nd Tr.lf (some livesB519) Tr.lf)
noncomputable def livesRB521 : Tr Blk := Tr.nd livesRB520 none Tr.lf
noncomputable def livesRB522 : Tr Blk := Tr.nd livesRB207 (some livesB11) livesRB521
noncomputable def livesB523 : Blk := (.map true [((.int .u64 (.ofNat (nat_lit 7))), (.agg []), (nat_lit 0))] (nat_lit 1))
noncomputable def livesRB524 : Tr Blk := Tr.nd Tr.lf none (Tr.nd Tr.lf (some livesB523) Tr.lf)
noncomputable def livesRB525 : Tr Blk := Tr.nd livesRB524 none Tr.lf
noncomputable def livesB526 : Blk := (.cells true true (some (nat_lit 164)) [(.sl (nat_lit 663) (nat_lit 0) (nat_lit 1) (some (nat_lit 1)) (nat_lit 2))])
noncomputable def livesRB527 : Tr Blk := Tr.nd (Tr.nd Tr.lf (some livesB526) Tr.lf) none Tr.lf
noncomputable def livesRB528 : Tr Blk := Tr.nd Tr.lf none livesRB527
noncomputable def livesRB529 : Tr Blk := Tr.nd livesRB528 none (Tr.nd Tr.lf (some livesB328) Tr.lf)
noncomputable def livesRB530 : Tr Blk := Tr.nd livesRB529 none Tr.lf
noncomputable def livesRB531 : Tr Blk := Tr.nd livesRB525 none livesRB530
noncomputable def livesRB532 : Tr Blk := Tr.nd livesRB522 none livesRB531
noncomputable def livesB533 : Blk := (.cells true true (some (nat_lit 51)) [(.str [(nat_lit 99), (nat_lit 110)]), (.sl (nat_lit 510) (nat_lit 0) (nat_lit 1) none (nat_lit 1)), (.str [(nat_lit 111), (nat_lit 98), (nat_lit 106), (nat_lit 101), (nat_lit 99), (nat_lit 116), (nat_lit 67), (nat_lit 108), (nat_lit 97), (nat_lit 115), (nat_lit 115)]), (.sl (nat_lit 515) (nat_lit 0) (nat_lit 1) none (nat_lit 1))])
noncomputable def livesRB534 : Tr Blk := Tr.nd (Tr.nd Tr.lf (some livesB533) Tr.lf) none Tr.lf
noncomputable def livesRB535 : Tr Blk := Tr.nd livesRB534 none Tr.lf
noncomputable def livesRB536 : Tr Blk := Tr.nd livesRB535 none Tr.lf
noncomputable def livesRB537 : Tr Blk := Tr.nd livesRB536 none Tr.lf
noncomputable def livesRB538 : Tr Blk := Tr.nd livesRB537 none livesRB335
noncomputable def livesB539 : Blk := (.cells true false none [(.fn (nat_lit 52) [] []), (.sl (nat_lit 665) (nat_lit 0) (nat_lit 1) none (nat_lit 1)), (.int .i64 (.ofNat (nat_lit 1)))])
noncomputable def livesRB540 : Tr Blk := Tr.nd Tr.lf none (Tr.nd Tr.lf (some livesB539) Tr.lf)
noncomputable def livesRB541 : Tr Blk := Tr.nd livesRB540 none Tr.lf
noncomputable def livesRB542 : Tr Blk := Tr.nd (Tr.nd Tr.lf (some livesB523) Tr.lf) none Tr.lf
noncomputable def livesRB543 : Tr Blk := Tr.nd Tr.lf none livesRB542
noncomputable def livesRB544 : Tr Blk := Tr.nd livesRB541 (some livesB10) livesRB543
noncomputable def livesRB545 : Tr Blk := Tr.nd livesRB538 (some livesB18) livesRB544
noncomputable def livesRB546 : Tr Blk := Tr.nd livesRB532 none livesRB545
noncomputable def livesRB547 : Tr Blk := Tr.nd livesRB518 (some livesB21) livesRB546
noncomputable def livesB548 : Blk := (.cells true true (some (nat_lit 77)) [(.str [(nat_lit 99), (nat_lit 110)]), (.str [(nat_lit 97)])])
noncomputable def livesRB549 : Tr Blk := Tr.nd Tr.lf none (Tr.nd Tr.lf (some livesB548) Tr.lf)
noncomputable def livesRB550 : Tr Blk := Tr.nd Tr.lf none livesRB549
noncomputable def livesRB551 : Tr Blk := Tr.nd livesRB347 none livesRB550
noncomputable def livesRB552 : Tr Blk := Tr.nd livesRB159 none livesRB551
noncomputable def livesRB553 : Tr Blk := Tr.nd livesRB458 none livesRB240
noncomputable def livesRB554 : Tr Blk := Tr.nd livesRB552 (some livesB28) livesRB553
noncomputable def livesRB555 : Tr Blk := Tr.nd livesRB455 none livesRB554
noncomputable def livesRB556 : Tr Blk := Tr.nd livesRB359 none livesRB248
noncomputable def livesRB557 : Tr Blk := Tr.nd livesRB543 none Tr.lf
noncomputable def livesB558 : Blk := (.cells true true (some (nat_lit 80)) [(.sl (nat_lit 500) (nat_lit 0) (nat_lit 1) none (nat_lit 2))])
noncomputable def livesRB559 : Tr Blk := Tr.nd Tr.lf none (Tr.nd Tr.lf (some livesB558) Tr.lf)
noncomputable def livesRB560 : Tr Blk := Tr.nd Tr.lf none livesRB559
noncomputable def livesRB561 : Tr Blk := Tr.nd livesRB557 none livesRB560
noncomputable def livesRB562 : Tr Blk := Tr.nd livesRB171 (some livesB35) livesRB561
noncomputable def livesRB563 : Tr Blk := Tr.nd (Tr.nd Tr.lf (some livesB194) Tr.lf) none livesRB451
noncomputable def livesRB564 : Tr Blk := Tr.nd Tr.lf none livesRB563
noncomputable def livesRB565 : Tr Blk := Tr.nd livesRB465 none livesRB564
noncomputable def livesRB566 : Tr Blk := Tr.nd livesRB562 (some livesB36) livesRB565
noncomputable def livesRB567 : Tr Blk := Tr.nd livesRB556 none livesRB566
noncomputable def livesRB568 : Tr Blk := Tr.nd livesRB555 (some livesB39) livesRB567
noncomputable def livesRB569 : Tr Blk := Tr.nd livesRB547 none livesRB568
noncomputable def livesRV570 : Tr AV := Tr.nd (Tr.nd Tr.lf (some livesV46) Tr.lf) (some livesV177) (Tr.nd Tr.lf (some livesV42) Tr.lf)
noncomputable def livesRV571 : Tr AV := Tr.nd livesRV570 (some livesV42) livesRV404
noncomputable def livesRV572 : Tr AV := Tr.nd (Tr.nd Tr.lf (some livesV427) Tr.lf) (some livesV177) Tr.lf
noncomputable def livesRV573 : Tr AV := Tr.nd (Tr.nd Tr.lf (some livesV427) Tr.lf) (some livesV42) Tr.lf
noncomputable def livesRV574 : Tr AV := Tr.nd livesRV572 (some livesV42) livesRV573
noncomputable def livesRV575 : Tr AV := Tr.nd livesRV571 (some livesV46) livesRV574
noncomputable def livesRV576 : Tr AV := Tr.nd (Tr.nd Tr.lf (some livesV42) Tr.lf) (some livesV76) Tr.lf
noncomputable def livesRV577 : Tr AV := Tr.nd livesRV410 (some livesV42) livesRV576
noncomputable def livesRV578 : Tr AV := Tr.nd livesRV409 (some livesV42) livesRV577
noncomputable def livesRV579 : Tr AV := Tr.nd livesRV575 (some livesV132) livesRV578
noncomputable def livesH7 : Tr Blk := livesRB569
noncomputable def livesS7 : St := ⟨⟨30, 27, livesRV579, [.code (navC [1, 1, 1, 1, 1] (bodyOf Tryz.prog 30))], [], none, false⟩, [⟨29, 51, (Tr.nd Tr.lf (some livesV76) Tr.lf), [.inReg (livesOps (navC [1, 0] (bodyOf Tryz.prog 29))) 0 ((livesOps (navC [1, 0] (bodyOf Tryz.prog 29))).toList.drop 0), .code (navC [1, 1] (bodyOf Tryz.prog 29))], [], none, false⟩], livesH7, 666, 0, []⟩
theorem lives_p7 : keepR [1, 2, 3, 12, 13, 14, 15, 16, 17, 22, 24, 27, 29, 31, 33, 34, 35, 36, 138, 143, 144, 155, 164, 166, 167, 168, 188, 189, 190, 191, 192, 193, 194, 200, 201, 202, 203, 204, 205, 206, 208, 209, 210, 212, 213, 215, 216, 217, 488, 492, 494, 500, 502, 510, 515, 517, 662, 663, 665] (runTo Tryz.prog 11 ext3 livesJ 20000 12 livesS6) = some livesS7 := by kernel_rfl
end Go.Proofs.YtkidamemnogojaaGreatDoor
