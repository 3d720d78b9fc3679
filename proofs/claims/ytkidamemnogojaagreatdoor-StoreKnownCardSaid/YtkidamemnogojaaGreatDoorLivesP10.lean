/-
  The run of function 29 in parts: part 10, 15 steps, and the state behind it.
-/
import Derived.Test.YtkidamemnogojaaGreatDoorLivesP9
namespace Go.Proofs.YtkidamemnogojaaGreatDoor
open Go.Ex
noncomputable def livesB754 : Blk := (.map true [((.int .u64 (.ofNat (nat_lit 7))), (.agg [(.sl (nat_lit 1027) (nat_lit 0) (nat_lit 2) none (nat_lit 2))]), (nat_lit 1))] (nat_lit 2))
noncomputable def livesRB755 : Tr Blk := Tr.nd (Tr.nd Tr.lf (some livesB754) Tr.lf) none Tr.lf
noncomputable def livesRB756 : Tr Blk := Tr.nd Tr.lf none livesRB755
noncomputable def livesRB757 : Tr Blk := Tr.nd livesRB756 none Tr.lf
noncomputable def livesRB758 : Tr Blk := Tr.nd livesRB585 none livesRB757
noncomputable def livesB759 : Blk := (.cells true true (some (nat_lit 51)) [(.str [(nat_lit 99), (nat_lit 110)]), (.sl (nat_lit 1020) (nat_lit 0) (nat_lit 1) none (nat_lit 1)), (.str [(nat_lit 111), (nat_lit 98), (nat_lit 106), (nat_lit 101), (nat_lit 99), (nat_lit 116), (nat_lit 67), (nat_lit 108), (nat_lit 97), (nat_lit 115), (nat_lit 115)]), (.sl (nat_lit 1025) (nat_lit 0) (nat_lit 1) none (nat_lit 1))])
noncomputable def livesRB760 : Tr Blk := Tr.nd (Tr.nd Tr.lf (some livesB759) Tr.lf) none Tr.lf
noncomputable def livesRB761 : Tr Blk := Tr.nd livesRB760 none Tr.lf
noncomputable def livesRB762 : Tr Blk := Tr.nd livesRB761 none Tr.lf
noncomputable def livesRB763 : Tr Blk := Tr.nd livesRB762 none Tr.lf
noncomputable def livesRB764 : Tr Blk := Tr.nd livesRB763 (some livesB4) livesRB713
noncomputable def livesB765 : Blk := (.cells true false none [(.str [(nat_lit 98)]), (.map (nat_lit 1170))])
noncomputable def livesRB766 : Tr Blk := Tr.nd (Tr.nd Tr.lf (some livesB765) Tr.lf) none Tr.lf
noncomputable def livesRB767 : Tr Blk := Tr.nd livesRB766 none Tr.lf
noncomputable def livesRB768 : Tr Blk := Tr.nd Tr.lf none livesRB767
noncomputable def livesRB769 : Tr Blk := Tr.nd livesRB768 none Tr.lf
noncomputable def livesRB770 : Tr Blk := Tr.nd livesRB769 none Tr.lf
noncomputable def livesRB771 : Tr Blk := Tr.nd livesRB764 none livesRB770
noncomputable def livesRB772 : Tr Blk := Tr.nd livesRB771 none livesRB202
noncomputable def livesRB773 : Tr Blk := Tr.nd livesRB758 (some livesB8) livesRB772
noncomputable def livesRB774 : Tr Blk := Tr.nd livesRB514 none (Tr.nd Tr.lf (some livesB205) Tr.lf)
noncomputable def livesRB775 : Tr Blk := Tr.nd livesRB774 (some livesB10) livesRB719
noncomputable def livesB776 : Blk := (.map true [((.int .u64 (.ofNat (nat_lit 7))), (.agg [(.int .u64 (.ofNat (nat_lit 7))), (.sl (nat_lit 502) (nat_lit 0) (nat_lit 1) none (nat_lit 1)), (.sl (nat_lit 867) (nat_lit 0) (nat_lit 2) none (nat_lit 2))]), (nat_lit 0))] (nat_lit 1))
noncomputable def livesRB777 : Tr Blk := Tr.nd Tr.lf none (Tr.nd Tr.lf (some livesB776) Tr.lf)
noncomputable def livesRB778 : Tr Blk := Tr.nd livesRB777 none livesRB601
noncomputable def livesRB779 : Tr Blk := Tr.nd livesRB775 none livesRB778
noncomputable def livesB780 : Blk := (.map true [((.int .u64 (.ofNat (nat_lit 7))), (.agg []), (nat_lit 1))] (nat_lit 2))
noncomputable def livesRB781 : Tr Blk := Tr.nd Tr.lf none (Tr.nd Tr.lf (some livesB780) Tr.lf)
noncomputable def livesRB782 : Tr Blk := Tr.nd livesRB781 none Tr.lf
noncomputable def livesB783 : Blk := (.cells true true (some (nat_lit 164)) [(.sl (nat_lit 1171) (nat_lit 0) (nat_lit 1) (some (nat_lit 1)) (nat_lit 2))])
noncomputable def livesRB784 : Tr Blk := Tr.nd (Tr.nd Tr.lf (some livesB783) Tr.lf) none Tr.lf
noncomputable def livesRB785 : Tr Blk := Tr.nd Tr.lf none livesRB784
noncomputable def livesRB786 : Tr Blk := Tr.nd livesRB785 none Tr.lf
noncomputable def livesRB787 : Tr Blk := Tr.nd livesRB786 none Tr.lf
noncomputable def livesRB788 : Tr Blk := Tr.nd livesRB782 none livesRB787
noncomputable def livesRB789 : Tr Blk := Tr.nd livesRB779 none livesRB788
noncomputable def livesRB790 : Tr Blk := Tr.nd (Tr.nd Tr.lf (some livesB780) Tr.lf) none Tr.lf
noncomputable def livesRB791 : Tr Blk := Tr.nd livesRB732 none livesRB790
noncomputable def livesRB792 : Tr Blk := Tr.nd livesRB615 (some livesB10) livesRB791
noncomputable def livesRB793 : Tr Blk := Tr.nd Tr.lf none livesRB792
noncomputable def livesRB794 : Tr Blk := Tr.nd livesRB789 none livesRB793
noncomputable def livesRB795 : Tr Blk := Tr.nd livesRB773 (some livesB21) livesRB794
noncomputable def livesRB796 : Tr Blk := Tr.nd livesRB631 none Tr.lf
noncomputable def livesRB797 : Tr Blk := Tr.nd livesRB227 none livesRB796
noncomputable def livesRB798 : Tr Blk := Tr.nd livesRB797 (some livesB23) Tr.lf
noncomputable def livesRB799 : Tr Blk := Tr.nd livesRB629 none livesRB798
noncomputable def livesRB800 : Tr Blk := Tr.nd Tr.lf none livesRB550
noncomputable def livesRB801 : Tr Blk := Tr.nd livesRB159 none livesRB800
noncomputable def livesRB802 : Tr Blk := Tr.nd Tr.lf none livesRB730
noncomputable def livesRB803 : Tr Blk := Tr.nd (Tr.nd Tr.lf (some livesB6) Tr.lf) none livesRB802
noncomputable def livesRB804 : Tr Blk := Tr.nd Tr.lf none livesRB803
noncomputable def livesRB805 : Tr Blk := Tr.nd livesRB238 none livesRB804
noncomputable def livesRB806 : Tr Blk := Tr.nd livesRB801 none livesRB805
noncomputable def livesRB807 : Tr Blk := Tr.nd livesRB799 none livesRB806
noncomputable def livesRB808 : Tr Blk := Tr.nd livesRB542 none Tr.lf
noncomputable def livesRB809 : Tr Blk := Tr.nd Tr.lf none livesRB808
noncomputable def livesRB810 : Tr Blk := Tr.nd livesRB809 none (Tr.nd Tr.lf (some livesB356) Tr.lf)
noncomputable def livesRB811 : Tr Blk := Tr.nd livesRB810 none livesRB652
noncomputable def livesRB812 : Tr Blk := Tr.nd livesRB648 none livesRB811
noncomputable def livesRB813 : Tr Blk := Tr.nd livesRB812 none livesRB248
noncomputable def livesRB814 : Tr Blk := Tr.nd Tr.lf none livesRB560
noncomputable def livesRB815 : Tr Blk := Tr.nd livesRB171 (some livesB35) livesRB814
noncomputable def livesRB816 : Tr Blk := Tr.nd livesRB815 none livesRB254
noncomputable def livesRB817 : Tr Blk := Tr.nd livesRB813 none livesRB816
noncomputable def livesRB818 : Tr Blk := Tr.nd livesRB807 (some livesB39) livesRB817
noncomputable def livesRB819 : Tr Blk := Tr.nd livesRB795 none livesRB818
noncomputable def livesRV820 : Tr AV := Tr.nd (Tr.nd Tr.lf (some livesV42) Tr.lf) (some livesV42) Tr.lf
noncomputable def livesRV821 : Tr AV := Tr.nd livesRV697 (some livesV42) livesRV820
noncomputable def livesRV822 : Tr AV := Tr.nd livesRV695 (some livesV369) livesRV821
noncomputable def livesRV823 : Tr AV := Tr.nd (Tr.nd Tr.lf (some livesV427) Tr.lf) (some livesV702) Tr.lf
noncomputable def livesRV824 : Tr AV := Tr.nd livesRV701 (some livesV42) livesRV823
noncomputable def livesRV825 : Tr AV := Tr.nd (Tr.nd Tr.lf (some livesV42) Tr.lf) (some livesV427) Tr.lf
noncomputable def livesRV826 : Tr AV := Tr.nd livesRV705 (some livesV369) livesRV825
noncomputable def livesRV827 : Tr AV := Tr.nd livesRV824 (some livesV707) livesRV826
noncomputable def livesRV828 : Tr AV := Tr.nd livesRV822 (some livesV76) livesRV827
noncomputable def livesH10 : Tr Blk := livesRB819
noncomputable def livesS10 : St := ⟨⟨29, 51, livesRV828, [.code (navC [1, 1, 1, 1, 1, 0] (bodyOf Tryz.prog 29)), .code (navC [1, 1, 0, 1, 0, 1] (bodyOf Tryz.prog 29))], [], none, false⟩, [], livesH10, 1173, 0, []⟩
theorem lives_p10 : keepR [1, 2, 3, 22, 24, 27, 29, 31, 33, 34, 35, 36, 138, 143, 144, 155, 164, 166, 167, 168, 188, 189, 190, 191, 192, 193, 194, 200, 201, 202, 203, 204, 205, 206, 208, 209, 210, 500, 502, 665, 672, 674, 680, 685, 687, 688, 689, 690, 861, 865, 867, 1020, 1025, 1027, 1170, 1171] (runTo Tryz.prog 11 ext3 livesJ 20000 15 livesS9) = some livesS10 := by kernel_rfl
end Go.Proofs.YtkidamemnogojaaGreatDoor
