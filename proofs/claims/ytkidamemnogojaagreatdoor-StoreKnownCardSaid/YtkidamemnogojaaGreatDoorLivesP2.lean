/-
  The run of function 29 in parts: part 2, 1803 steps, and the state behind it.
-/
import Derived.Test.YtkidamemnogojaaGreatDoorLivesP1
namespace Go.Proofs.YtkidamemnogojaaGreatDoor
open Go.Ex
noncomputable def livesB138 : Blk := (.cells true true (some (nat_lit 198)) [(.sl (nat_lit 138) (nat_lit 0) (nat_lit 1) (some (nat_lit 1)) (nat_lit 1))])
noncomputable def livesRB139 : Tr Blk := Tr.nd (Tr.nd Tr.lf (some livesB138) Tr.lf) none Tr.lf
noncomputable def livesRB140 : Tr Blk := Tr.nd livesRB139 none Tr.lf
noncomputable def livesRB141 : Tr Blk := Tr.nd (Tr.nd Tr.lf (some livesB0) Tr.lf) (some livesB1) livesRB140
noncomputable def livesRB142 : Tr Blk := Tr.nd livesRB141 none Tr.lf
noncomputable def livesB143 : Blk := (.cells true true (some (nat_lit 3)) [(.int .i64 (.ofNat (nat_lit 0)))])
noncomputable def livesRB144 : Tr Blk := Tr.nd (Tr.nd Tr.lf (some livesB143) Tr.lf) none Tr.lf
noncomputable def livesRB145 : Tr Blk := Tr.nd livesRB144 none Tr.lf
noncomputable def livesRB146 : Tr Blk := Tr.nd Tr.lf (some livesB6) livesRB145
noncomputable def livesRB147 : Tr Blk := Tr.nd livesRB5 none livesRB146
noncomputable def livesRB148 : Tr Blk := Tr.nd livesRB142 (some livesB8) livesRB147
noncomputable def livesRB149 : Tr Blk := Tr.nd Tr.lf (some livesB18) (Tr.nd Tr.lf (some livesB10) Tr.lf)
noncomputable def livesRB150 : Tr Blk := Tr.nd livesRB13 none livesRB149
noncomputable def livesRB151 : Tr Blk := Tr.nd livesRB148 (some livesB21) livesRB150
noncomputable def livesB152 : Blk := (.cells true false (some (nat_lit 129)) [(.sl (nat_lit 155) (nat_lit 0) (nat_lit 1) none (nat_lit 1)), (.sl (nat_lit 166) (nat_lit 0) (nat_lit 1) none (nat_lit 1))])
noncomputable def livesRB153 : Tr Blk := Tr.nd (Tr.nd Tr.lf (some livesB152) Tr.lf) none Tr.lf
noncomputable def livesRB154 : Tr Blk := Tr.nd livesRB153 none Tr.lf
noncomputable def livesRB155 : Tr Blk := Tr.nd Tr.lf (some livesB18) livesRB154
noncomputable def livesRB156 : Tr Blk := Tr.nd livesRB155 none (Tr.nd Tr.lf (some livesB23) Tr.lf)
noncomputable def livesRB157 : Tr Blk := Tr.nd (Tr.nd Tr.lf (some livesB35) Tr.lf) none Tr.lf
noncomputable def livesB158 : Blk := (.cells true false none [(.sl (nat_lit 22) (nat_lit 0) (nat_lit 2) none (nat_lit 9)), (.sl (nat_lit 24) (nat_lit 0) (nat_lit 1) none (nat_lit 6)), (.map (nat_lit 34)), (.map (nat_lit 35)), (.sl (nat_lit 164) (nat_lit 0) (nat_lit 2) none (nat_lit 9)), (.sl (nat_lit 144) (nat_lit 0) (nat_lit 2) (some (nat_lit 2)) (nat_lit 1)), (.sl (nat_lit 143) (nat_lit 0) (nat_lit 1) none (nat_lit 1))])
noncomputable def livesRB159 : Tr Blk := Tr.nd Tr.lf (some livesB158) livesRB157
noncomputable def livesRB160 : Tr Blk := Tr.nd livesRB159 none Tr.lf
noncomputable def livesRB161 : Tr Blk := Tr.nd livesRB160 (some livesB28) Tr.lf
noncomputable def livesRB162 : Tr Blk := Tr.nd livesRB156 none livesRB161
noncomputable def livesRB163 : Tr Blk := Tr.nd (Tr.nd Tr.lf (some livesB31) Tr.lf) none Tr.lf
noncomputable def livesB164 : Blk := (.cells true false (some (nat_lit 4)) [(.bool false)])
noncomputable def livesRB165 : Tr Blk := Tr.nd (Tr.nd Tr.lf (some livesB164) Tr.lf) none Tr.lf
noncomputable def livesRB166 : Tr Blk := Tr.nd livesRB165 none Tr.lf
noncomputable def livesRB167 : Tr Blk := Tr.nd livesRB166 none Tr.lf
noncomputable def livesRB168 : Tr Blk := Tr.nd livesRB163 none livesRB167
noncomputable def livesB169 : Blk := (.cells true true (some (nat_lit 3)) [(.int .i64 (.ofNat (nat_lit 1)))])
noncomputable def livesRB170 : Tr Blk := Tr.nd (Tr.nd Tr.lf (some livesB169) Tr.lf) none Tr.lf
noncomputable def livesRB171 : Tr Blk := Tr.nd Tr.lf none livesRB170
noncomputable def livesRB172 : Tr Blk := Tr.nd livesRB171 (some livesB35) Tr.lf
noncomputable def livesRB173 : Tr Blk := Tr.nd livesRB172 (some livesB36) Tr.lf
noncomputable def livesRB174 : Tr Blk := Tr.nd livesRB168 none livesRB173
noncomputable def livesRB175 : Tr Blk := Tr.nd livesRB162 (some livesB39) livesRB174
noncomputable def livesRB176 : Tr Blk := Tr.nd livesRB151 none livesRB175
noncomputable def livesV177 : AV := (.tup [(.ptr (nat_lit 36) (nat_lit 0)), (.int .i64 (.ofNat (nat_lit 0))), (.int .i64 (.ofNat (nat_lit 0)))])
noncomputable def livesRV178 : Tr AV := Tr.nd (Tr.nd Tr.lf (some livesV177) Tr.lf) (some livesV42) (Tr.nd Tr.lf (some livesV42) Tr.lf)
noncomputable def livesRV179 : Tr AV := Tr.nd (Tr.nd Tr.lf (some livesV177) Tr.lf) none Tr.lf
noncomputable def livesRV180 : Tr AV := Tr.nd livesRV178 (some livesV46) livesRV179
noncomputable def livesRV181 : Tr AV := Tr.nd (Tr.nd Tr.lf (some livesV43) Tr.lf) none (Tr.nd Tr.lf (some livesV42) Tr.lf)
noncomputable def livesRV182 : Tr AV := Tr.nd (Tr.nd Tr.lf (some livesV46) Tr.lf) none Tr.lf
noncomputable def livesRV183 : Tr AV := Tr.nd livesRV181 (some livesV42) livesRV182
noncomputable def livesRV184 : Tr AV := Tr.nd livesRV180 (some livesV132) livesRV183
noncomputable def livesH2 : Tr Blk := livesRB176
noncomputable def livesS2 : St := ⟨⟨30, 27, livesRV184, [.code (navC [1, 1] (bodyOf Tryz.prog 30))], [], none, false⟩, [⟨29, 51, (Tr.nd Tr.lf (some livesV76) Tr.lf), [.inReg (livesOps (navC [1, 0] (bodyOf Tryz.prog 29))) 0 ((livesOps (navC [1, 0] (bodyOf Tryz.prog 29))).toList.drop 0), .code (navC [1, 1] (bodyOf Tryz.prog 29))], [], none, false⟩], livesH2, 167, 0, []⟩
theorem lives_p2 : keepR [1, 2, 3, 12, 13, 14, 15, 16, 17, 22, 24, 27, 29, 31, 33, 34, 35, 36, 138, 143, 144, 155, 164, 166] (runTo Tryz.prog 11 ext3 livesJ 20000 1803 livesS1) = some livesS2 := by kernel_rfl
end Go.Proofs.YtkidamemnogojaaGreatDoor
