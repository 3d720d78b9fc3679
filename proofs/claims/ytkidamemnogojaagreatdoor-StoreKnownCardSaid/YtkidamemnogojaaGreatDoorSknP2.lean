/-
  The run of function 6 in parts: part 2, 1803 steps, and the state behind it.
-/
import Derived.Test.YtkidamemnogojaaGreatDoorSknP1
namespace Go.Proofs.YtkidamemnogojaaGreatDoor
open Go.Ex
noncomputable def sknB138 : Blk := (.cells true true (some (nat_lit 198)) [(.sl (nat_lit 138) (nat_lit 0) (nat_lit 1) (some (nat_lit 1)) (nat_lit 1))])
noncomputable def sknRB139 : Tr Blk := Tr.nd (Tr.nd Tr.lf (some sknB138) Tr.lf) none Tr.lf
noncomputable def sknRB140 : Tr Blk := Tr.nd sknRB139 none Tr.lf
noncomputable def sknRB141 : Tr Blk := Tr.nd (Tr.nd Tr.lf (some sknB0) Tr.lf) (some sknB1) sknRB140
noncomputable def sknRB142 : Tr Blk := Tr.nd sknRB141 none Tr.lf
noncomputable def sknB143 : Blk := (.cells true true (some (nat_lit 3)) [(.int .i64 (.ofNat (nat_lit 0)))])
noncomputable def sknRB144 : Tr Blk := Tr.nd (Tr.nd Tr.lf (some sknB143) Tr.lf) none Tr.lf
noncomputable def sknRB145 : Tr Blk := Tr.nd sknRB144 none Tr.lf
noncomputable def sknRB146 : Tr Blk := Tr.nd Tr.lf (some sknB6) sknRB145
noncomputable def sknRB147 : Tr Blk := Tr.nd sknRB5 none sknRB146
noncomputable def sknRB148 : Tr Blk := Tr.nd sknRB142 (some sknB8) sknRB147
noncomputable def sknRB149 : Tr Blk := Tr.nd Tr.lf (some sknB18) (Tr.nd Tr.lf (some sknB10) Tr.lf)
noncomputable def sknRB150 : Tr Blk := Tr.nd sknRB13 none sknRB149
noncomputable def sknRB151 : Tr Blk := Tr.nd sknRB148 (some sknB21) sknRB150
noncomputable def sknB152 : Blk := (.cells true false (some (nat_lit 129)) [(.sl (nat_lit 155) (nat_lit 0) (nat_lit 1) none (nat_lit 1)), (.sl (nat_lit 166) (nat_lit 0) (nat_lit 1) none (nat_lit 1))])
noncomputable def sknRB153 : Tr Blk := Tr.nd (Tr.nd Tr.lf (some sknB152) Tr.lf) none Tr.lf
noncomputable def sknRB154 : Tr Blk := Tr.nd sknRB153 none Tr.lf
noncomputable def sknRB155 : Tr Blk := Tr.nd Tr.lf (some sknB18) sknRB154
noncomputable def sknRB156 : Tr Blk := Tr.nd sknRB155 none (Tr.nd Tr.lf (some sknB23) Tr.lf)
noncomputable def sknRB157 : Tr Blk := Tr.nd (Tr.nd Tr.lf (some sknB35) Tr.lf) none Tr.lf
noncomputable def sknB158 : Blk := (.cells true false none [(.sl (nat_lit 22) (nat_lit 0) (nat_lit 2) none (nat_lit 9)), (.sl (nat_lit 24) (nat_lit 0) (nat_lit 1) none (nat_lit 6)), (.map (nat_lit 34)), (.map (nat_lit 35)), (.sl (nat_lit 164) (nat_lit 0) (nat_lit 2) none (nat_lit 9)), (.sl (nat_lit 144) (nat_lit 0) (nat_lit 2) (some (nat_lit 2)) (nat_lit 1)), (.sl (nat_lit 143) (nat_lit 0) (nat_lit 1) none (nat_lit 1))])
noncomputable def sknRB159 : Tr Blk := Tr.nd Tr.lf (some sknB158) sknRB157
noncomputable def sknRB160 : Tr Blk := Tr.nd sknRB159 none Tr.lf
noncomputable def sknRB161 : Tr Blk := Tr.nd sknRB160 (some sknB28) Tr.lf
noncomputable def sknRB162 : Tr Blk := Tr.nd sknRB156 none sknRB161
noncomputable def sknRB163 : Tr Blk := Tr.nd (Tr.nd Tr.lf (some sknB31) Tr.lf) none Tr.lf
noncomputable def sknB164 : Blk := (.cells true false (some (nat_lit 4)) [(.bool false)])
noncomputable def sknRB165 : Tr Blk := Tr.nd (Tr.nd Tr.lf (some sknB164) Tr.lf) none Tr.lf
noncomputable def sknRB166 : Tr Blk := Tr.nd sknRB165 none Tr.lf
noncomputable def sknRB167 : Tr Blk := Tr.nd sknRB166 none Tr.lf
noncomputable def sknRB168 : Tr Blk := Tr.nd sknRB163 none sknRB167
noncomputable def sknB169 : Blk := (.cells true true (some (nat_lit 3)) [(.int .i64 (.ofNat (nat_lit 1)))])
noncomputable def sknRB170 : Tr Blk := Tr.nd (Tr.nd Tr.lf (some sknB169) Tr.lf) none Tr.lf
noncomputable def sknRB171 : Tr Blk := Tr.nd Tr.lf none sknRB170
noncomputable def sknRB172 : Tr Blk := Tr.nd sknRB171 (some sknB35) Tr.lf
noncomputable def sknRB173 : Tr Blk := Tr.nd sknRB172 (some sknB36) Tr.lf
noncomputable def sknRB174 : Tr Blk := Tr.nd sknRB168 none sknRB173
noncomputable def sknRB175 : Tr Blk := Tr.nd sknRB162 (some sknB39) sknRB174
noncomputable def sknRB176 : Tr Blk := Tr.nd sknRB151 none sknRB175
noncomputable def sknV177 : AV := (.tup [(.ptr (nat_lit 36) (nat_lit 0)), (.int .i64 (.ofNat (nat_lit 0))), (.int .i64 (.ofNat (nat_lit 0)))])
noncomputable def sknRV178 : Tr AV := Tr.nd (Tr.nd Tr.lf (some sknV177) Tr.lf) (some sknV42) (Tr.nd Tr.lf (some sknV42) Tr.lf)
noncomputable def sknRV179 : Tr AV := Tr.nd (Tr.nd Tr.lf (some sknV177) Tr.lf) none Tr.lf
noncomputable def sknRV180 : Tr AV := Tr.nd sknRV178 (some sknV46) sknRV179
noncomputable def sknRV181 : Tr AV := Tr.nd (Tr.nd Tr.lf (some sknV43) Tr.lf) none (Tr.nd Tr.lf (some sknV42) Tr.lf)
noncomputable def sknRV182 : Tr AV := Tr.nd (Tr.nd Tr.lf (some sknV46) Tr.lf) none Tr.lf
noncomputable def sknRV183 : Tr AV := Tr.nd sknRV181 (some sknV42) sknRV182
noncomputable def sknRV184 : Tr AV := Tr.nd sknRV180 (some sknV132) sknRV183
noncomputable def sknH2 : Tr Blk := sknRB176
noncomputable def sknS2 : St := ⟨⟨30, 27, sknRV184, [.code (navC [1, 1] (bodyOf Tryz.prog 30))], [], none, false⟩, [⟨6, 175, (Tr.nd Tr.lf (some sknV76) Tr.lf), [.inReg (sknOps (navC [1, 0] (bodyOf Tryz.prog 6))) 0 ((sknOps (navC [1, 0] (bodyOf Tryz.prog 6))).toList.drop 0), .code (navC [1, 1] (bodyOf Tryz.prog 6))], [], none, false⟩], sknH2, 167, 0, []⟩
theorem skn_p2 : keepR [1, 2, 3, 12, 13, 14, 15, 16, 17, 22, 24, 27, 29, 31, 33, 34, 35, 36, 138, 143, 144, 155, 164, 166] (runTo Tryz.prog 11 ext5 sknJ 20000 1803 sknS1) = some sknS2 := by kernel_rfl
end Go.Proofs.YtkidamemnogojaaGreatDoor
