/-
  The run of function 4 in parts: part 6, 5039 steps, and the state behind it.
-/
import Derived.Test.YtjclahnbohdcpaaGreatDoorKnownP5
namespace Go.Proofs.YtjclahnbohdcpaaGreatDoor
open Go.Ex
noncomputable def knownB879 : Blk := (.cells true false (some (nat_lit 35)) [(.int .i8 (.ofNat (nat_lit 1))), (.int .i64 (.ofNat (nat_lit 2))), (.str [(nat_lit 97), (nat_lit 110), (nat_lit 110)]), .nils])
noncomputable def knownRB880 : Tr Blk := Tr.nd Tr.lf none (Tr.nd Tr.lf (some knownB879) Tr.lf)
noncomputable def knownRB881 : Tr Blk := Tr.nd knownRB880 (some knownB290) Tr.lf
noncomputable def knownRB882 : Tr Blk := Tr.nd Tr.lf none knownRB881
noncomputable def knownRB883 : Tr Blk := Tr.nd knownRB882 none Tr.lf
noncomputable def knownRB884 : Tr Blk := Tr.nd knownRB883 none knownRB272
noncomputable def knownRB885 : Tr Blk := Tr.nd knownRB458 none knownRB884
noncomputable def knownRB886 : Tr Blk := Tr.nd knownRB634 none knownRB885
noncomputable def knownRB887 : Tr Blk := Tr.nd knownRB886 none knownRB643
noncomputable def knownRB888 : Tr Blk := Tr.nd knownRB628 none knownRB887
noncomputable def knownRB889 : Tr Blk := Tr.nd knownRB620 (some knownB15) knownRB888
noncomputable def knownRB890 : Tr Blk := Tr.nd knownRB889 none knownRB711
noncomputable def knownV891 : AV := (.tup [(.agg [(.int .i8 (.ofNat (nat_lit 1))), (.int .i64 (.ofNat (nat_lit 2))), (.str [(nat_lit 97), (nat_lit 110), (nat_lit 110)]), .nils]), (.bool true), (.bool true)])
noncomputable def knownRV892 : Tr AV := Tr.nd (Tr.nd Tr.lf (some knownV891) Tr.lf) none Tr.lf
noncomputable def knownRV893 : Tr AV := Tr.nd knownRV892 (some knownV728) (Tr.nd Tr.lf (some knownV58) Tr.lf)
noncomputable def knownRV894 : Tr AV := Tr.nd (Tr.nd Tr.lf (some knownV713) Tr.lf) none (Tr.nd Tr.lf (some knownV58) Tr.lf)
noncomputable def knownRV895 : Tr AV := Tr.nd knownRV893 (some knownV38) knownRV894
noncomputable def knownRV896 : Tr AV := Tr.nd (Tr.nd Tr.lf (some knownV728) Tr.lf) (some knownV716) Tr.lf
noncomputable def knownRV897 : Tr AV := Tr.nd knownRV896 none (Tr.nd Tr.lf (some knownV713) Tr.lf)
noncomputable def knownRV898 : Tr AV := Tr.nd (Tr.nd Tr.lf (some knownV38) Tr.lf) none (Tr.nd Tr.lf (some knownV713) Tr.lf)
noncomputable def knownV899 : AV := (.fn (nat_lit 20) [] [])
noncomputable def knownRV900 : Tr AV := Tr.nd knownRV897 (some knownV899) knownRV898
noncomputable def knownRV901 : Tr AV := Tr.nd knownRV895 (some knownV713) knownRV900
noncomputable def knownV902 : AV := (.agg [(.int .i8 (.ofNat (nat_lit 1))), (.int .i64 (.ofNat (nat_lit 2))), (.str [(nat_lit 97), (nat_lit 110), (nat_lit 110)]), .nils])
noncomputable def knownRV903 : Tr AV := Tr.nd (Tr.nd Tr.lf (some knownV902) Tr.lf) (some knownV721) Tr.lf
noncomputable def knownRV904 : Tr AV := Tr.nd knownRV903 (some knownV728) (Tr.nd Tr.lf (some knownV58) Tr.lf)
noncomputable def knownRV905 : Tr AV := Tr.nd (Tr.nd Tr.lf (some knownV38) Tr.lf) none (Tr.nd Tr.lf (some knownV891) Tr.lf)
noncomputable def knownV906 : AV := (.fn (nat_lit 19) [] [])
noncomputable def knownRV907 : Tr AV := Tr.nd knownRV904 (some knownV906) knownRV905
noncomputable def knownRV908 : Tr AV := Tr.nd (Tr.nd Tr.lf (some knownV728) Tr.lf) (some knownV721) Tr.lf
noncomputable def knownRV909 : Tr AV := Tr.nd knownRV908 none (Tr.nd Tr.lf (some knownV58) Tr.lf)
noncomputable def knownRV910 : Tr AV := Tr.nd (Tr.nd Tr.lf (some knownV38) Tr.lf) none (Tr.nd Tr.lf (some knownV391) Tr.lf)
noncomputable def knownV911 : AV := (.ptr (nat_lit 3381) (nat_lit 0))
noncomputable def knownRV912 : Tr AV := Tr.nd knownRV909 (some knownV911) knownRV910
noncomputable def knownRV913 : Tr AV := Tr.nd knownRV907 (some knownV38) knownRV912
noncomputable def knownRV914 : Tr AV := Tr.nd knownRV901 (some knownV58) knownRV913
noncomputable def knownH6 : Tr Blk := knownRB890
noncomputable def knownS6 : St := ⟨⟨6, 158, knownRV914, [.code (navC [1, 1, 1, 1, 1, 1] (bodyOf Tryz.prog 6))], [], none, false⟩, [⟨4, 194, knownRV878, [.inReg (knownOps (navC [1, 1, 1, 1, 1, 1, 1, 1, 1, 1, 1, 1, 1, 1, 1, 1, 1, 1, 1, 0] (bodyOf Tryz.prog 4))) 31 ((knownOps (navC [1, 1, 1, 1, 1, 1, 1, 1, 1, 1, 1, 1, 1, 1, 1, 1, 1, 1, 1, 0] (bodyOf Tryz.prog 4))).toList.drop 31), .code (navC [1, 1, 0, 1, 0, 1] (bodyOf Tryz.prog 4))], [], none, false⟩], knownH6, 3382, 0, []⟩
theorem known_p6 : keepR [1, 2, 14, 15, 16, 17, 22, 25, 27, 29, 30, 31, 32, 160, 171, 198, 200, 202, 203, 204, 414, 415, 417, 550, 551, 553, 554, 619, 621, 815, 817, 820, 821, 1211, 1216, 1626, 1627, 1629, 2039, 2040, 2042, 2043, 2421, 2426, 2833, 2837, 2842, 2844, 2846, 2848, 3096, 3098, 3099, 3100, 3101, 3106, 3109, 3111, 3113, 3114, 3115, 3116, 3244, 3255, 3282, 3284, 3286, 3381] (runTo Tryz.prog 13 ext knownJ 20000 5039 knownS5) = some knownS6 := by kernel_rfl
end Go.Proofs.YtjclahnbohdcpaaGreatDoor
