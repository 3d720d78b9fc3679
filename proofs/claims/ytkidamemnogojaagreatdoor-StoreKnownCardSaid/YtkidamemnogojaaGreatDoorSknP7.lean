/-
  The run of function 6 in parts: part 7, 12 steps, and the state behind it.
-/
import Derived.Test.YtkidamemnogojaaGreatDoorSknP6
namespace Go.Proofs.YtkidamemnogojaaGreatDoor
open Go.Ex
noncomputable def sknB503 : Blk := (.map true [((.int .u64 (.ofNat (nat_lit 7))), (.agg [(.sl (nat_lit 517) (nat_lit 0) (nat_lit 2) none (nat_lit 2))]), (nat_lit 0))] (nat_lit 1))
noncomputable def sknRB504 : Tr Blk := Tr.nd (Tr.nd Tr.lf (some sknB503) Tr.lf) none Tr.lf
noncomputable def sknRB505 : Tr Blk := Tr.nd Tr.lf none sknRB504
noncomputable def sknB506 : Blk := (.cells true false none [(.str [(nat_lit 97)]), (.map (nat_lit 662))])
noncomputable def sknRB507 : Tr Blk := Tr.nd (Tr.nd Tr.lf (some sknB506) Tr.lf) none Tr.lf
noncomputable def sknRB508 : Tr Blk := Tr.nd Tr.lf none sknRB507
noncomputable def sknRB509 : Tr Blk := Tr.nd sknRB508 none (Tr.nd Tr.lf (some sknB1) Tr.lf)
noncomputable def sknRB510 : Tr Blk := Tr.nd sknRB509 none Tr.lf
noncomputable def sknRB511 : Tr Blk := Tr.nd sknRB505 none sknRB510
noncomputable def sknRB512 : Tr Blk := Tr.nd sknRB316 none sknRB511
noncomputable def sknRB513 : Tr Blk := Tr.nd sknRB250 none Tr.lf
noncomputable def sknRB514 : Tr Blk := Tr.nd sknRB513 none Tr.lf
noncomputable def sknRB515 : Tr Blk := Tr.nd sknRB514 (some sknB4) Tr.lf
noncomputable def sknRB516 : Tr Blk := Tr.nd sknRB515 none Tr.lf
noncomputable def sknRB517 : Tr Blk := Tr.nd sknRB516 none sknRB202
noncomputable def sknRB518 : Tr Blk := Tr.nd sknRB512 (some sknB8) sknRB517
noncomputable def sknB519 : Blk := (.map true [((.int .u64 (.ofNat (nat_lit 7))), (.agg [(.int .u64 (.ofNat (nat_lit 7))), (.sl (nat_lit 502) (nat_lit 0) (nat_lit 1) none (nat_lit 1)), (.sl (nat_lit 494) (nat_lit 0) (nat_lit 2) none (nat_lit 2))]), (nat_lit 0))] (nat_lit 1))
noncomputable def sknRB520 : Tr Blk := Tr.nd Tr.lf none (Tr.nd Tr.lf (some sknB519) Tr.lf)
noncomputable def sknRB521 : Tr Blk := Tr.nd sknRB520 none Tr.lf
noncomputable def sknRB522 : Tr Blk := Tr.nd sknRB207 (some sknB11) sknRB521
noncomputable def sknB523 : Blk := (.map true [((.int .u64 (.ofNat (nat_lit 7))), (.agg []), (nat_lit 0))] (nat_lit 1))
noncomputable def sknRB524 : Tr Blk := Tr.nd Tr.lf none (Tr.nd Tr.lf (some sknB523) Tr.lf)
noncomputable def sknRB525 : Tr Blk := Tr.nd sknRB524 none Tr.lf
noncomputable def sknB526 : Blk := (.cells true true (some (nat_lit 164)) [(.sl (nat_lit 663) (nat_lit 0) (nat_lit 1) (some (nat_lit 1)) (nat_lit 2))])
noncomputable def sknRB527 : Tr Blk := Tr.nd (Tr.nd Tr.lf (some sknB526) Tr.lf) none Tr.lf
noncomputable def sknRB528 : Tr Blk := Tr.nd Tr.lf none sknRB527
noncomputable def sknRB529 : Tr Blk := Tr.nd sknRB528 none (Tr.nd Tr.lf (some sknB328) Tr.lf)
noncomputable def sknRB530 : Tr Blk := Tr.nd sknRB529 none Tr.lf
noncomputable def sknRB531 : Tr Blk := Tr.nd sknRB525 none sknRB530
noncomputable def sknRB532 : Tr Blk := Tr.nd sknRB522 none sknRB531
noncomputable def sknB533 : Blk := (.cells true true (some (nat_lit 51)) [(.str [(nat_lit 99), (nat_lit 110)]), (.sl (nat_lit 510) (nat_lit 0) (nat_lit 1) none (nat_lit 1)), (.str [(nat_lit 111), (nat_lit 98), (nat_lit 106), (nat_lit 101), (nat_lit 99), (nat_lit 116), (nat_lit 67), (nat_lit 108), (nat_lit 97), (nat_lit 115), (nat_lit 115)]), (.sl (nat_lit 515) (nat_lit 0) (nat_lit 1) none (nat_lit 1))])
noncomputable def sknRB534 : Tr Blk := Tr.nd (Tr.nd Tr.lf (some sknB533) Tr.lf) none Tr.lf
noncomputable def sknRB535 : Tr Blk := Tr.nd sknRB534 none Tr.lf
noncomputable def sknRB536 : Tr Blk := Tr.nd sknRB535 none Tr.lf
noncomputable def sknRB537 : Tr Blk := Tr.nd sknRB536 none Tr.lf
noncomputable def sknRB538 : Tr Blk := Tr.nd sknRB537 none sknRB335
noncomputable def sknB539 : Blk := (.cells true false none [(.fn (nat_lit 52) [] []), (.sl (nat_lit 665) (nat_lit 0) (nat_lit 1) none (nat_lit 1)), (.int .i64 (.ofNat (nat_lit 1)))])
noncomputable def sknRB540 : Tr Blk := Tr.nd Tr.lf none (Tr.nd Tr.lf (some sknB539) Tr.lf)
noncomputable def sknRB541 : Tr Blk := Tr.nd sknRB540 none Tr.lf
noncomputable def sknRB542 : Tr Blk := Tr.nd (Tr.nd Tr.lf (some sknB523) Tr.lf) none Tr.lf
noncomputable def sknRB543 : Tr Blk := Tr.nd Tr.lf none sknRB542
noncomputable def sknRB544 : Tr Blk := Tr.nd sknRB541 (some sknB10) sknRB543
noncomputable def sknRB545 : Tr Blk := Tr.nd sknRB538 (some sknB18) sknRB544
noncomputable def sknRB546 : Tr Blk := Tr.nd sknRB532 none sknRB545
noncomputable def sknRB547 : Tr Blk := Tr.nd sknRB518 (some sknB21) sknRB546
noncomputable def sknB548 : Blk := (.cells true true (some (nat_lit 77)) [(.str [(nat_lit 99), (nat_lit 110)]), (.str [(nat_lit 97)])])
noncomputable def sknRB549 : Tr Blk := Tr.nd Tr.lf none (Tr.nd Tr.lf (some sknB548) Tr.lf)
noncomputable def sknRB550 : Tr Blk := Tr.nd Tr.lf none sknRB549
noncomputable def sknRB551 : Tr Blk := Tr.nd sknRB347 none sknRB550
noncomputable def sknRB552 : Tr Blk := Tr.nd sknRB159 none sknRB551
noncomputable def sknRB553 : Tr Blk := Tr.nd sknRB458 none sknRB240
noncomputable def sknRB554 : Tr Blk := Tr.nd sknRB552 (some sknB28) sknRB553
noncomputable def sknRB555 : Tr Blk := Tr.nd sknRB455 none sknRB554
noncomputable def sknRB556 : Tr Blk := Tr.nd sknRB359 none sknRB248
noncomputable def sknRB557 : Tr Blk := Tr.nd sknRB543 none Tr.lf
noncomputable def sknB558 : Blk := (.cells true true (some (nat_lit 80)) [(.sl (nat_lit 500) (nat_lit 0) (nat_lit 1) none (nat_lit 2))])
noncomputable def sknRB559 : Tr Blk := Tr.nd Tr.lf none (Tr.nd Tr.lf (some sknB558) Tr.lf)
noncomputable def sknRB560 : Tr Blk := Tr.nd Tr.lf none sknRB559
noncomputable def sknRB561 : Tr Blk := Tr.nd sknRB557 none sknRB560
noncomputable def sknRB562 : Tr Blk := Tr.nd sknRB171 (some sknB35) sknRB561
noncomputable def sknRB563 : Tr Blk := Tr.nd (Tr.nd Tr.lf (some sknB194) Tr.lf) none sknRB451
noncomputable def sknRB564 : Tr Blk := Tr.nd Tr.lf none sknRB563
noncomputable def sknRB565 : Tr Blk := Tr.nd sknRB465 none sknRB564
noncomputable def sknRB566 : Tr Blk := Tr.nd sknRB562 (some sknB36) sknRB565
noncomputable def sknRB567 : Tr Blk := Tr.nd sknRB556 none sknRB566
noncomputable def sknRB568 : Tr Blk := Tr.nd sknRB555 (some sknB39) sknRB567
noncomputable def sknRB569 : Tr Blk := Tr.nd sknRB547 none sknRB568
noncomputable def sknRV570 : Tr AV := Tr.nd (Tr.nd Tr.lf (some sknV46) Tr.lf) (some sknV177) (Tr.nd Tr.lf (some sknV42) Tr.lf)
noncomputable def sknRV571 : Tr AV := Tr.nd sknRV570 (some sknV42) sknRV404
noncomputable def sknRV572 : Tr AV := Tr.nd (Tr.nd Tr.lf (some sknV427) Tr.lf) (some sknV177) Tr.lf
noncomputable def sknRV573 : Tr AV := Tr.nd (Tr.nd Tr.lf (some sknV427) Tr.lf) (some sknV42) Tr.lf
noncomputable def sknRV574 : Tr AV := Tr.nd sknRV572 (some sknV42) sknRV573
noncomputable def sknRV575 : Tr AV := Tr.nd sknRV571 (some sknV46) sknRV574
noncomputable def sknRV576 : Tr AV := Tr.nd (Tr.nd Tr.lf (some sknV42) Tr.lf) (some sknV76) Tr.lf
noncomputable def sknRV577 : Tr AV := Tr.nd sknRV410 (some sknV42) sknRV576
noncomputable def sknRV578 : Tr AV := Tr.nd sknRV409 (some sknV42) sknRV577
noncomputable def sknRV579 : Tr AV := Tr.nd sknRV575 (some sknV132) sknRV578
noncomputable def sknH7 : Tr Blk := sknRB569
noncomputable def sknS7 : St := ⟨⟨30, 27, sknRV579, [.code (navC [1, 1, 1, 1, 1] (bodyOf Tryz.prog 30))], [], none, false⟩, [⟨6, 175, (Tr.nd Tr.lf (some sknV76) Tr.lf), [.inReg (sknOps (navC [1, 0] (bodyOf Tryz.prog 6))) 0 ((sknOps (navC [1, 0] (bodyOf Tryz.prog 6))).toList.drop 0), .code (navC [1, 1] (bodyOf Tryz.prog 6))], [], none, false⟩], sknH7, 666, 0, []⟩
theorem skn_p7 : keepR [1, 2, 3, 12, 13, 14, 15, 16, 17, 22, 24, 27, 29, 31, 33, 34, 35, 36, 138, 143, 144, 155, 164, 166, 167, 168, 188, 189, 190, 191, 192, 193, 194, 200, 201, 202, 203, 204, 205, 206, 208, 209, 210, 212, 213, 215, 216, 217, 488, 492, 494, 500, 502, 510, 515, 517, 662, 663, 665] (runTo Tryz.prog 11 ext5 sknJ 20000 12 sknS6) = some sknS7 := by kernel_rfl
end Go.Proofs.YtkidamemnogojaaGreatDoor
