/-
  The run of function 15 in parts: part 3, 5732 steps, and the state behind it.
-/
import Derived.Test.YtdkfmckbeagenaaGreatDoorWakesP2
namespace Go.Proofs.YtdkfmckbeagenaaGreatDoor
open Go.Ex
noncomputable def wakesB309 : Blk := (.cells true true (some (nat_lit 44)) [(.iface (nat_lit 63) (.agg [(.int .i8 (.ofNat (nat_lit 7))), .nils, (.str [(nat_lit 99), (nat_lit 110)]), (.str []), (.str []), .nils, (.str []), (.str []), (.bool false), (.bool false)])), (.iface (nat_lit 63) (.agg [(.int .i8 (.ofNat (nat_lit 7))), .nils, (.str [(nat_lit 99), (nat_lit 110)]), (.str []), (.str []), .nils, (.str []), (.str []), (.bool false), (.bool false)]))])
noncomputable def wakesRB310 : Tr Blk := Tr.nd (Tr.nd Tr.lf (some wakesB246) Tr.lf) none (Tr.nd Tr.lf (some wakesB309) Tr.lf)
noncomputable def wakesRB311 : Tr Blk := Tr.nd Tr.lf none wakesRB310
noncomputable def wakesRB312 : Tr Blk := Tr.nd wakesRB311 none Tr.lf
noncomputable def wakesRB313 : Tr Blk := Tr.nd wakesRB312 none Tr.lf
noncomputable def wakesRB314 : Tr Blk := Tr.nd wakesRB245 none wakesRB313
noncomputable def wakesB315 : Blk := (.cells true true (some (nat_lit 44)) [(.iface (nat_lit 63) (.agg [(.int .i8 (.ofNat (nat_lit 7))), .nils, (.str [(nat_lit 99), (nat_lit 110)]), (.str []), (.str []), .nils, (.str []), (.str []), (.bool false), (.bool false)])), (.iface (nat_lit 63) (.agg [(.int .i8 (.ofNat (nat_lit 7))), .nils, (.str [(nat_lit 99), (nat_lit 110)]), (.str []), (.str []), .nils, (.str []), (.str []), (.bool false), (.bool false)])), (.iface (nat_lit 63) (.agg [(.int .i8 (.ofNat (nat_lit 7))), .nils, (.str [(nat_lit 110), (nat_lit 111), (nat_lit 98), (nat_lit 111), (nat_lit 100), (nat_lit 121)]), (.str []), (.str []), .nils, (.str []), (.str []), (.bool false), (.bool false)]))])
noncomputable def wakesRB316 : Tr Blk := Tr.nd (Tr.nd Tr.lf (some wakesB315) Tr.lf) none Tr.lf
noncomputable def wakesRB317 : Tr Blk := Tr.nd Tr.lf none wakesRB316
noncomputable def wakesRB318 : Tr Blk := Tr.nd Tr.lf none wakesRB317
noncomputable def wakesRB319 : Tr Blk := Tr.nd wakesRB318 (some wakesB33) Tr.lf
noncomputable def wakesRB320 : Tr Blk := Tr.nd wakesRB255 none wakesRB319
noncomputable def wakesRB321 : Tr Blk := Tr.nd wakesRB314 none wakesRB320
noncomputable def wakesRB322 : Tr Blk := Tr.nd wakesRB321 none wakesRB264
noncomputable def wakesRB323 : Tr Blk := Tr.nd wakesRB244 (some wakesB47) wakesRB322
noncomputable def wakesV324 : AV := (.iface (nat_lit 66) (.agg [(.int .i8 (.ofNat (nat_lit 1))), (.sl (nat_lit 456) (nat_lit 0) (nat_lit 2) none (nat_lit 1))]))
noncomputable def wakesRV325 : Tr AV := Tr.nd (Tr.nd Tr.lf (some wakesV76) Tr.lf) (some wakesV52) (Tr.nd Tr.lf (some wakesV324) Tr.lf)
noncomputable def wakesRV326 : Tr AV := Tr.nd wakesRV268 (some wakesV270) wakesRV325
noncomputable def wakesRV327 : Tr AV := Tr.nd (Tr.nd Tr.lf (some wakesV53) Tr.lf) (some wakesV76) (Tr.nd Tr.lf (some wakesV267) Tr.lf)
noncomputable def wakesRV328 : Tr AV := Tr.nd (Tr.nd Tr.lf (some wakesV71) Tr.lf) none Tr.lf
noncomputable def wakesRV329 : Tr AV := Tr.nd wakesRV327 (some wakesV71) wakesRV328
noncomputable def wakesRV330 : Tr AV := Tr.nd wakesRV326 (some wakesV267) wakesRV329
noncomputable def wakesRV331 : Tr AV := Tr.nd (Tr.nd Tr.lf (some wakesV274) Tr.lf) (some wakesV275) (Tr.nd Tr.lf (some wakesV52) Tr.lf)
noncomputable def wakesRV332 : Tr AV := Tr.nd (Tr.nd Tr.lf (some wakesV53) Tr.lf) (some wakesV71) Tr.lf
noncomputable def wakesRV333 : Tr AV := Tr.nd wakesRV331 (some wakesV277) wakesRV332
noncomputable def wakesV334 : AV := (.iface (nat_lit 66) (.agg [(.int .i8 (.ofNat (nat_lit 1))), (.sl (nat_lit 364) (nat_lit 0) (nat_lit 3) none (nat_lit 1))]))
noncomputable def wakesRV335 : Tr AV := Tr.nd (Tr.nd Tr.lf (some wakesV275) Tr.lf) (some wakesV324) (Tr.nd Tr.lf (some wakesV334) Tr.lf)
noncomputable def wakesRV336 : Tr AV := Tr.nd wakesRV335 (some wakesV53) (Tr.nd Tr.lf (some wakesV274) Tr.lf)
noncomputable def wakesRV337 : Tr AV := Tr.nd wakesRV333 none wakesRV336
noncomputable def wakesRV338 : Tr AV := Tr.nd wakesRV330 (some wakesV52) wakesRV337
noncomputable def wakesH3 : Tr Blk := wakesRB323
noncomputable def wakesS3 : St := ⟨⟨16, 34, wakesRV338, [.code (navC [1, 1, 1, 1] (bodyOf Tryz.prog 16))], [], none, false⟩, [⟨15, 103, wakesRV308, [.inReg (wakesOps (navC [1, 1, 1, 1, 0] (bodyOf Tryz.prog 15))) 2 ((wakesOps (navC [1, 1, 1, 1, 0] (bodyOf Tryz.prog 15))).toList.drop 2), .code (navC [1, 1, 1, 1, 1] (bodyOf Tryz.prog 15))], [], none, false⟩], wakesH3, 494, 0, []⟩
theorem wakes_p3 : keepR [0, 13, 14, 15, 20, 23, 25, 26, 27, 28, 106, 117, 126, 128, 132, 133, 315, 319, 324, 326, 327, 328, 364, 456] (runTo Tryz.prog 12 ext wakesJ 20000 5732 wakesS2) = some wakesS3 := by kernel_rfl
end Go.Proofs.YtdkfmckbeagenaaGreatDoor
