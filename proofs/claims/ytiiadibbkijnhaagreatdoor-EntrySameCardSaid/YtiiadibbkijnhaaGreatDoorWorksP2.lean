/-
  The run of function 11 in parts: part 2, 2915 steps, and the state behind it.
-/
import Derived.Test.YtiiadibbkijnhaaGreatDoorWorksP1
namespace Go.Proofs.YtiiadibbkijnhaaGreatDoor
open Go.Ex
noncomputable def worksB144 : Blk := (.cells true false (some (nat_lit 95)) [(.sl (nat_lit 206) (nat_lit 0) (nat_lit 1) none (nat_lit 1)), (.sl (nat_lit 217) (nat_lit 0) (nat_lit 1) none (nat_lit 1)), (.sl (nat_lit 228) (nat_lit 0) (nat_lit 1) none (nat_lit 1))])
noncomputable def worksRB145 : Tr Blk := Tr.nd Tr.lf none (Tr.nd Tr.lf (some worksB144) Tr.lf)
noncomputable def worksRB146 : Tr Blk := Tr.nd worksRB145 (some worksB7) Tr.lf
noncomputable def worksRB147 : Tr Blk := Tr.nd worksRB146 (some worksB9) Tr.lf
noncomputable def worksB148 : Blk := (.cells true false (some (nat_lit 4)) [(.bool false)])
noncomputable def worksRB149 : Tr Blk := Tr.nd (Tr.nd Tr.lf (some worksB148) Tr.lf) none Tr.lf
noncomputable def worksRB150 : Tr Blk := Tr.nd Tr.lf none worksRB149
noncomputable def worksRB151 : Tr Blk := Tr.nd Tr.lf none worksRB150
noncomputable def worksRB152 : Tr Blk := Tr.nd worksRB147 none worksRB151
noncomputable def worksRB153 : Tr Blk := Tr.nd worksRB5 none worksRB152
noncomputable def worksB154 : Blk := (.cells true true (some (nat_lit 3)) [(.int .i64 (.ofNat (nat_lit 1)))])
noncomputable def worksRB155 : Tr Blk := Tr.nd Tr.lf none (Tr.nd Tr.lf (some worksB154) Tr.lf)
noncomputable def worksRB156 : Tr Blk := Tr.nd worksRB155 none Tr.lf
noncomputable def worksRB157 : Tr Blk := Tr.nd (Tr.nd Tr.lf (some worksB17) Tr.lf) none worksRB156
noncomputable def worksRB158 : Tr Blk := Tr.nd worksRB16 none worksRB157
noncomputable def worksRB159 : Tr Blk := Tr.nd worksRB158 none worksRB24
noncomputable def worksRB160 : Tr Blk := Tr.nd worksRB153 (some worksB26) worksRB159
noncomputable def worksB161 : Blk := (.cells true true (some (nat_lit 3)) [(.int .i64 (.ofNat (nat_lit 2)))])
noncomputable def worksRB162 : Tr Blk := Tr.nd Tr.lf none (Tr.nd Tr.lf (some worksB161) Tr.lf)
noncomputable def worksRB163 : Tr Blk := Tr.nd Tr.lf none worksRB162
noncomputable def worksRB164 : Tr Blk := Tr.nd worksRB163 none Tr.lf
noncomputable def worksRB165 : Tr Blk := Tr.nd worksRB164 (some worksB36) Tr.lf
noncomputable def worksRB166 : Tr Blk := Tr.nd worksRB32 none worksRB165
noncomputable def worksB167 : Blk := (.cells true true (some (nat_lit 138)) [(.sl (nat_lit 187) (nat_lit 0) (nat_lit 1) (some (nat_lit 1)) (nat_lit 1))])
noncomputable def worksRB168 : Tr Blk := Tr.nd Tr.lf none (Tr.nd Tr.lf (some worksB167) Tr.lf)
noncomputable def worksRB169 : Tr Blk := Tr.nd Tr.lf none (Tr.nd Tr.lf (some worksB30) Tr.lf)
noncomputable def worksRB170 : Tr Blk := Tr.nd worksRB168 none worksRB169
noncomputable def worksRB171 : Tr Blk := Tr.nd worksRB170 (some worksB39) Tr.lf
noncomputable def worksB172 : Blk := (.cells true false none [(.sl (nat_lit 24) (nat_lit 0) (nat_lit 3) none (nat_lit 9)), (.sl (nat_lit 26) (nat_lit 0) (nat_lit 1) none (nat_lit 6)), (.map (nat_lit 40)), (.map (nat_lit 41)), (.sl (nat_lit 226) (nat_lit 0) (nat_lit 3) none (nat_lit 9)), (.sl (nat_lit 195) (nat_lit 0) (nat_lit 3) (some (nat_lit 3)) (nat_lit 1)), (.sl (nat_lit 194) (nat_lit 0) (nat_lit 1) none (nat_lit 1))])
noncomputable def worksRB173 : Tr Blk := Tr.nd (Tr.nd Tr.lf (some worksB172) Tr.lf) (some worksB41) Tr.lf
noncomputable def worksRB174 : Tr Blk := Tr.nd worksRB171 none worksRB173
noncomputable def worksB175 : Blk := (.cells true true (some (nat_lit 3)) [(.int .i64 (.ofNat (nat_lit 0)))])
noncomputable def worksRB176 : Tr Blk := Tr.nd Tr.lf none (Tr.nd Tr.lf (some worksB175) Tr.lf)
noncomputable def worksRB177 : Tr Blk := Tr.nd worksRB176 none Tr.lf
noncomputable def worksRB178 : Tr Blk := Tr.nd worksRB177 none Tr.lf
noncomputable def worksRB179 : Tr Blk := Tr.nd Tr.lf (some worksB39) worksRB178
noncomputable def worksRB180 : Tr Blk := Tr.nd worksRB174 none worksRB179
noncomputable def worksRB181 : Tr Blk := Tr.nd worksRB166 (some worksB45) worksRB180
noncomputable def worksRB182 : Tr Blk := Tr.nd worksRB160 (some worksB47) worksRB181
noncomputable def worksV183 : AV := (.tup [(.ptr (nat_lit 42) (nat_lit 0)), (.int .i64 (.ofNat (nat_lit 0))), (.int .i64 (.ofNat (nat_lit 0)))])
noncomputable def worksRV184 : Tr AV := Tr.nd (Tr.nd Tr.lf (some worksV183) Tr.lf) none (Tr.nd Tr.lf (some worksV83) Tr.lf)
noncomputable def worksRV185 : Tr AV := Tr.nd (Tr.nd Tr.lf (some worksV49) Tr.lf) none Tr.lf
noncomputable def worksRV186 : Tr AV := Tr.nd worksRV184 (some worksV49) worksRV185
noncomputable def worksRV187 : Tr AV := Tr.nd worksRV184 none worksRV185
noncomputable def worksRV188 : Tr AV := Tr.nd worksRV186 (some worksV53) worksRV187
noncomputable def worksRV189 : Tr AV := Tr.nd (Tr.nd Tr.lf (some worksV50) Tr.lf) none (Tr.nd Tr.lf (some worksV53) Tr.lf)
noncomputable def worksRV190 : Tr AV := Tr.nd worksRV189 none worksRV185
noncomputable def worksRV191 : Tr AV := Tr.nd (Tr.nd Tr.lf (some worksV53) Tr.lf) none (Tr.nd Tr.lf (some worksV83) Tr.lf)
noncomputable def worksRV192 : Tr AV := Tr.nd (Tr.nd Tr.lf (some worksV83) Tr.lf) none Tr.lf
noncomputable def worksRV193 : Tr AV := Tr.nd worksRV191 none worksRV192
noncomputable def worksRV194 : Tr AV := Tr.nd worksRV190 (some worksV49) worksRV193
noncomputable def worksRV195 : Tr AV := Tr.nd worksRV188 (some worksV83) worksRV194
noncomputable def worksH2 : Tr Blk := worksRB182
noncomputable def worksS2 : St := ⟨⟨11, 176, worksRV195, [.code (navC [1, 1, 0, 1] (bodyOf Tryz.prog 11)), .code (navC [1, 1, 1] (bodyOf Tryz.prog 11))], [], none, false⟩, [], worksH2, 229, 0, []⟩
theorem works_p2 : keepR [0, 1, 2, 12, 13, 14, 15, 16, 17, 18, 19, 24, 26, 29, 31, 33, 35, 37, 39, 40, 41, 42, 187, 194, 195, 206, 217, 226, 228] (runTo Tryz.prog 11 ext1 worksJ 20000 2915 worksS1) = some worksS2 := by kernel_rfl
end Go.Proofs.YtiiadibbkijnhaaGreatDoor
