/-
  The run of function 6 in parts: part 13, 54 steps, and the state behind it.
-/
import Derived.Test.YtkidamemnogojaaGreatDoorSknP12
namespace Go.Proofs.YtkidamemnogojaaGreatDoor
open Go.Ex
noncomputable def sknRB1159 : Tr Blk := Tr.nd sknRB1056 none Tr.lf
noncomputable def sknRB1160 : Tr Blk := Tr.nd sknRB1054 none sknRB1159
noncomputable def sknB1161 : Blk := (.cells true false none [(.sl (nat_lit 1368) (nat_lit 0) (nat_lit 1) (some (nat_lit 1)) (nat_lit 2))])
noncomputable def sknRB1162 : Tr Blk := Tr.nd (Tr.nd Tr.lf (some sknB1161) Tr.lf) none Tr.lf
noncomputable def sknRB1163 : Tr Blk := Tr.nd Tr.lf none sknRB1162
noncomputable def sknRB1164 : Tr Blk := Tr.nd sknRB1163 none Tr.lf
noncomputable def sknRB1165 : Tr Blk := Tr.nd sknRB1068 none sknRB1164
noncomputable def sknRB1166 : Tr Blk := Tr.nd sknRB1165 none sknRB1073
noncomputable def sknRB1167 : Tr Blk := Tr.nd sknRB1065 none sknRB1166
noncomputable def sknRB1168 : Tr Blk := Tr.nd sknRB1160 none sknRB1167
noncomputable def sknRB1169 : Tr Blk := Tr.nd sknRB1168 none sknRB1089
noncomputable def sknRB1170 : Tr Blk := Tr.nd sknRB1051 (some sknB21) sknRB1169
noncomputable def sknRB1171 : Tr Blk := Tr.nd (Tr.nd Tr.lf (some sknB1113) Tr.lf) none Tr.lf
noncomputable def sknRB1172 : Tr Blk := Tr.nd Tr.lf none sknRB1171
noncomputable def sknRB1173 : Tr Blk := Tr.nd sknRB1172 none sknRB451
noncomputable def sknRB1174 : Tr Blk := Tr.nd Tr.lf none sknRB1173
noncomputable def sknRB1175 : Tr Blk := Tr.nd sknRB1174 none Tr.lf
noncomputable def sknRB1176 : Tr Blk := Tr.nd sknRB631 (some sknB23) sknRB1175
noncomputable def sknRB1177 : Tr Blk := Tr.nd sknRB823 none sknRB1176
noncomputable def sknRB1178 : Tr Blk := Tr.nd sknRB1177 none sknRB1108
noncomputable def sknRB1179 : Tr Blk := Tr.nd sknRB1178 (some sknB39) sknRB1122
noncomputable def sknRB1180 : Tr Blk := Tr.nd sknRB1170 none sknRB1179
noncomputable def sknV1181 : AV := (.int .u64 (.ofNat (nat_lit 9)))
noncomputable def sknRV1182 : Tr AV := Tr.nd (Tr.nd Tr.lf (some sknV1181) Tr.lf) (some sknV369) Tr.lf
noncomputable def sknRV1183 : Tr AV := Tr.nd (Tr.nd Tr.lf (some sknV849) Tr.lf) (some sknV847) Tr.lf
noncomputable def sknRV1184 : Tr AV := Tr.nd sknRV1183 (some sknV660) (Tr.nd Tr.lf (some sknV58) Tr.lf)
noncomputable def sknRV1185 : Tr AV := Tr.nd sknRV1184 none sknRV984
noncomputable def sknRV1186 : Tr AV := Tr.nd (Tr.nd Tr.lf (some sknV849) Tr.lf) (some sknV42) (Tr.nd Tr.lf (some sknV42) Tr.lf)
noncomputable def sknRV1187 : Tr AV := Tr.nd sknRV986 (some sknV662) sknRV1186
noncomputable def sknRV1188 : Tr AV := Tr.nd sknRV1185 (some sknV42) sknRV1187
noncomputable def sknRV1189 : Tr AV := Tr.nd (Tr.nd Tr.lf (some sknV861) Tr.lf) (some sknV52) (Tr.nd Tr.lf (some sknV369) Tr.lf)
noncomputable def sknRV1190 : Tr AV := Tr.nd sknRV989 (some sknV42) sknRV1189
noncomputable def sknRV1191 : Tr AV := Tr.nd sknRV1138 (some sknV864) sknRV1190
noncomputable def sknRV1192 : Tr AV := Tr.nd sknRV1188 (some sknV42) sknRV1191
noncomputable def sknRV1193 : Tr AV := Tr.nd (Tr.nd Tr.lf (some sknV369) Tr.lf) (some sknV849) Tr.lf
noncomputable def sknRV1194 : Tr AV := Tr.nd sknRV1193 (some sknV666) (Tr.nd Tr.lf (some sknV369) Tr.lf)
noncomputable def sknRV1195 : Tr AV := Tr.nd sknRV1194 none sknRV993
noncomputable def sknRV1196 : Tr AV := Tr.nd (Tr.nd Tr.lf (some sknV369) Tr.lf) (some sknV871) (Tr.nd Tr.lf (some sknV849) Tr.lf)
noncomputable def sknRV1197 : Tr AV := Tr.nd sknRV995 (some sknV662) sknRV1196
noncomputable def sknRV1198 : Tr AV := Tr.nd sknRV1195 (some sknV42) sknRV1197
noncomputable def sknV1199 : AV := (.int .i64 (.ofNat (nat_lit 151)))
noncomputable def sknRV1200 : Tr AV := Tr.nd (Tr.nd Tr.lf (some sknV878) Tr.lf) (some sknV849) (Tr.nd Tr.lf (some sknV1199) Tr.lf)
noncomputable def sknRV1201 : Tr AV := Tr.nd sknRV1001 (some sknV369) sknRV1200
noncomputable def sknRV1202 : Tr AV := Tr.nd sknRV1142 (some sknV881) sknRV1201
noncomputable def sknRV1203 : Tr AV := Tr.nd sknRV1198 (some sknV42) sknRV1202
noncomputable def sknRV1204 : Tr AV := Tr.nd sknRV1192 (some sknV369) sknRV1203
noncomputable def sknRV1205 : Tr AV := Tr.nd (Tr.nd Tr.lf (some sknV849) Tr.lf) (some sknV885) Tr.lf
noncomputable def sknRV1206 : Tr AV := Tr.nd sknRV1205 (some sknV672) (Tr.nd Tr.lf (some sknV886) Tr.lf)
noncomputable def sknRV1207 : Tr AV := Tr.nd sknRV1206 none sknRV1006
noncomputable def sknRV1208 : Tr AV := Tr.nd (Tr.nd Tr.lf (some sknV878) Tr.lf) (some sknV871) (Tr.nd Tr.lf (some sknV849) Tr.lf)
noncomputable def sknRV1209 : Tr AV := Tr.nd sknRV1009 (some sknV369) sknRV1208
noncomputable def sknRV1210 : Tr AV := Tr.nd sknRV1207 (some sknV767) sknRV1209
noncomputable def sknV1211 : AV := (.agg [(.sl (nat_lit 1369) (nat_lit 0) (nat_lit 1) (some (nat_lit 1)) (nat_lit 1))])
noncomputable def sknRV1212 : Tr AV := Tr.nd (Tr.nd Tr.lf (some sknV898) Tr.lf) (some sknV849) (Tr.nd Tr.lf (some sknV1211) Tr.lf)
noncomputable def sknRV1213 : Tr AV := Tr.nd sknRV1012 (some sknV672) sknRV1212
noncomputable def sknRV1214 : Tr AV := Tr.nd sknRV1147 (some sknV58) sknRV1213
noncomputable def sknRV1215 : Tr AV := Tr.nd sknRV1210 (some sknV666) sknRV1214
noncomputable def sknRV1216 : Tr AV := Tr.nd (Tr.nd Tr.lf (some sknV907) Tr.lf) (some sknV908) (Tr.nd Tr.lf (some sknV849) Tr.lf)
noncomputable def sknRV1217 : Tr AV := Tr.nd sknRV1016 (some sknV678) sknRV1216
noncomputable def sknRV1218 : Tr AV := Tr.nd sknRV1151 (some sknV849) sknRV1217
noncomputable def sknRV1219 : Tr AV := Tr.nd (Tr.nd Tr.lf (some sknV864) Tr.lf) (some sknV369) (Tr.nd Tr.lf (some sknV849) Tr.lf)
noncomputable def sknRV1220 : Tr AV := Tr.nd sknRV1021 (some sknV680) sknRV1219
noncomputable def sknRV1221 : Tr AV := Tr.nd sknRV1154 (some sknV42) sknRV1220
noncomputable def sknRV1222 : Tr AV := Tr.nd sknRV1218 (some sknV771) sknRV1221
noncomputable def sknRV1223 : Tr AV := Tr.nd sknRV1215 (some sknV683) sknRV1222
noncomputable def sknRV1224 : Tr AV := Tr.nd sknRV1204 (some sknV76) sknRV1223
noncomputable def sknH13 : Tr Blk := sknRB1180
noncomputable def sknS13 : St := ⟨⟨20, 28, sknRV1182, [.code (navC [] (bodyOf Tryz.prog 20))], [], none, false⟩, [⟨6, 175, sknRV1224, [.inReg (sknOps (navC [1, 1, 1, 1, 1, 1, 1, 1, 1, 1, 0] (bodyOf Tryz.prog 6))) 29 ((sknOps (navC [1, 1, 1, 1, 1, 1, 1, 1, 1, 1, 0] (bodyOf Tryz.prog 6))).toList.drop 29), .code (navC [1, 1, 1, 1, 1, 1, 1, 1, 1, 1, 1] (bodyOf Tryz.prog 6))], [], none, false⟩], sknH13, 1373, 0, []⟩
theorem skn_p13 : keepR [1, 2, 3, 22, 24, 27, 29, 31, 33, 34, 35, 36, 138, 143, 144, 155, 164, 166, 167, 168, 188, 189, 190, 191, 192, 193, 194, 200, 201, 202, 203, 204, 205, 206, 208, 209, 210, 488, 492, 494, 665, 672, 674, 680, 685, 687, 688, 690, 691, 693, 694, 695, 699, 700, 702, 703, 704, 732, 733, 734, 735, 837, 838, 839, 976, 978, 984, 989, 991, 992, 1006, 1007, 1015, 1017, 1212, 1217, 1219, 1364, 1365, 1368, 1369] (runTo Tryz.prog 11 ext5 sknJ 20000 54 sknS12) = some sknS13 := by kernel_rfl
end Go.Proofs.YtkidamemnogojaaGreatDoor
