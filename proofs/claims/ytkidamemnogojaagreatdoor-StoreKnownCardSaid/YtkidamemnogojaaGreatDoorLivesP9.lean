/-
  The run of function 29 in parts: part 9, 17 steps, and the state behind it.
-/
import Derived.Test.YtkidamemnogojaaGreatDoorLivesP8
namespace Go.Proofs.YtkidamemnogojaaGreatDoor
open Go.Ex
noncomputable def livesB710 : Blk := (.cells true true (some (nat_lit 51)) [(.str [(nat_lit 99), (nat_lit 110)]), (.sl (nat_lit 861) (nat_lit 0) (nat_lit 1) none (nat_lit 1)), (.str [(nat_lit 111), (nat_lit 98), (nat_lit 106), (nat_lit 101), (nat_lit 99), (nat_lit 116), (nat_lit 67), (nat_lit 108), (nat_lit 97), (nat_lit 115), (nat_lit 115)]), (.sl (nat_lit 865) (nat_lit 0) (nat_lit 1) none (nat_lit 1))])
noncomputable def livesRB711 : Tr Blk := Tr.nd Tr.lf none (Tr.nd Tr.lf (some livesB710) Tr.lf)
noncomputable def livesRB712 : Tr Blk := Tr.nd livesRB711 none Tr.lf
noncomputable def livesRB713 : Tr Blk := Tr.nd Tr.lf none livesRB712
noncomputable def livesRB714 : Tr Blk := Tr.nd livesRB514 (some livesB4) livesRB713
noncomputable def livesRB715 : Tr Blk := Tr.nd livesRB714 none livesRB594
noncomputable def livesRB716 : Tr Blk := Tr.nd livesRB715 none livesRB202
noncomputable def livesRB717 : Tr Blk := Tr.nd livesRB589 (some livesB8) livesRB716
noncomputable def livesRB718 : Tr Blk := Tr.nd livesRB456 none Tr.lf
noncomputable def livesRB719 : Tr Blk := Tr.nd Tr.lf none livesRB718
noncomputable def livesRB720 : Tr Blk := Tr.nd livesRB206 (some livesB10) livesRB719
noncomputable def livesRB721 : Tr Blk := Tr.nd livesRB720 none livesRB602
noncomputable def livesRB722 : Tr Blk := Tr.nd livesRB721 none livesRB606
noncomputable def livesB723 : Blk := (.cells true false (some (nat_lit 63)) [(.int .u64 (.ofNat (nat_lit 7))), (.sl (nat_lit 502) (nat_lit 0) (nat_lit 1) none (nat_lit 1)), (.sl (nat_lit 867) (nat_lit 0) (nat_lit 2) none (nat_lit 2))])
noncomputable def livesRB724 : Tr Blk := Tr.nd (Tr.nd Tr.lf (some livesB723) Tr.lf) none Tr.lf
noncomputable def livesRB725 : Tr Blk := Tr.nd Tr.lf none livesRB724
noncomputable def livesRB726 : Tr Blk := Tr.nd livesRB725 none Tr.lf
noncomputable def livesRB727 : Tr Blk := Tr.nd Tr.lf none livesRB726
noncomputable def livesRB728 : Tr Blk := Tr.nd livesRB537 none livesRB727
noncomputable def livesB729 : Blk := (.cells true true (some (nat_lit 9)) [(.str [(nat_lit 98)])])
noncomputable def livesRB730 : Tr Blk := Tr.nd Tr.lf none (Tr.nd Tr.lf (some livesB729) Tr.lf)
noncomputable def livesRB731 : Tr Blk := Tr.nd livesRB730 none Tr.lf
noncomputable def livesRB732 : Tr Blk := Tr.nd Tr.lf none livesRB731
noncomputable def livesRB733 : Tr Blk := Tr.nd livesRB732 none livesRB542
noncomputable def livesRB734 : Tr Blk := Tr.nd livesRB615 (some livesB10) livesRB733
noncomputable def livesRB735 : Tr Blk := Tr.nd livesRB728 none livesRB734
noncomputable def livesRB736 : Tr Blk := Tr.nd livesRB722 none livesRB735
noncomputable def livesRB737 : Tr Blk := Tr.nd livesRB717 (some livesB21) livesRB736
noncomputable def livesRB738 : Tr Blk := Tr.nd livesRB737 none livesRB658
noncomputable def livesRV739 : Tr AV := Tr.nd (Tr.nd Tr.lf (some livesV76) Tr.lf) (some livesV369) Tr.lf
noncomputable def livesRV740 : Tr AV := Tr.nd livesRV739 (some livesV42) (Tr.nd Tr.lf (some livesV666) Tr.lf)
noncomputable def livesRV741 : Tr AV := Tr.nd (Tr.nd Tr.lf (some livesV382) Tr.lf) (some livesV42) (Tr.nd Tr.lf (some livesV427) Tr.lf)
noncomputable def livesRV742 : Tr AV := Tr.nd livesRV740 none livesRV741
noncomputable def livesRV743 : Tr AV := Tr.nd (Tr.nd Tr.lf (some livesV371) Tr.lf) (some livesV666) (Tr.nd Tr.lf (some livesV427) Tr.lf)
noncomputable def livesRV744 : Tr AV := Tr.nd (Tr.nd Tr.lf (some livesV671) Tr.lf) (some livesV76) (Tr.nd Tr.lf (some livesV42) Tr.lf)
noncomputable def livesRV745 : Tr AV := Tr.nd livesRV743 none livesRV744
noncomputable def livesRV746 : Tr AV := Tr.nd livesRV742 (some livesV382) livesRV745
noncomputable def livesRV747 : Tr AV := Tr.nd (Tr.nd Tr.lf (some livesV676) Tr.lf) (some livesV369) (Tr.nd Tr.lf (some livesV42) Tr.lf)
noncomputable def livesRV748 : Tr AV := Tr.nd livesRV675 none livesRV747
noncomputable def livesRV749 : Tr AV := Tr.nd (Tr.nd Tr.lf (some livesV380) Tr.lf) (some livesV42) (Tr.nd Tr.lf (some livesV679) Tr.lf)
noncomputable def livesRV750 : Tr AV := Tr.nd (Tr.nd Tr.lf (some livesV666) Tr.lf) (some livesV676) (Tr.nd Tr.lf (some livesV42) Tr.lf)
noncomputable def livesRV751 : Tr AV := Tr.nd livesRV749 (some livesV42) livesRV750
noncomputable def livesRV752 : Tr AV := Tr.nd livesRV748 (some livesV679) livesRV751
noncomputable def livesRV753 : Tr AV := Tr.nd livesRV746 (some livesV369) livesRV752
noncomputable def livesH9 : Tr Blk := livesRB738
noncomputable def livesS9 : St := ⟨⟨63, 49, livesRV753, [.code (navC [1, 1, 1, 1, 1, 0] (bodyOf Tryz.prog 63)), .code (navC [1, 1, 1, 1, 1, 1] (bodyOf Tryz.prog 63))], [], none, false⟩, [⟨17, 14, livesRV691, [.inReg (livesOps (navC [1, 0] (bodyOf Tryz.prog 17))) 3 ((livesOps (navC [1, 0] (bodyOf Tryz.prog 17))).toList.drop 3), .code (navC [1, 1] (bodyOf Tryz.prog 17))], [], none, false⟩, ⟨29, 51, livesRV709, [.inReg (livesOps (navC [1, 1, 1, 1, 0] (bodyOf Tryz.prog 29))) 5 ((livesOps (navC [1, 1, 1, 1, 0] (bodyOf Tryz.prog 29))).toList.drop 5), .code (navC [1, 1, 1, 1, 1] (bodyOf Tryz.prog 29))], [], none, false⟩], livesH9, 869, 0, []⟩
theorem lives_p9 : keepR [1, 2, 3, 22, 24, 27, 29, 31, 33, 34, 35, 36, 138, 143, 144, 155, 164, 166, 167, 168, 188, 189, 190, 191, 192, 193, 194, 200, 201, 202, 203, 204, 205, 206, 208, 209, 210, 488, 492, 494, 500, 502, 510, 515, 517, 662, 663, 665, 672, 674, 680, 685, 687, 688, 689, 690, 691, 692, 693, 861, 865, 867] (runTo Tryz.prog 11 ext3 livesJ 20000 17 livesS8) = some livesS9 := by kernel_rfl
end Go.Proofs.YtkidamemnogojaaGreatDoor
