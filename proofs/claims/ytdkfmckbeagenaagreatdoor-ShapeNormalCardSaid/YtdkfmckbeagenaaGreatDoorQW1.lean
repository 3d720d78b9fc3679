/-
  The run of function 15 in parts: part 3, 5732 steps, and the state behind it.
  The run of function 15 in parts: part 4, 3678 steps, and the state behind it.
-/
import Derived.Test.YtdkfmckbeagenaaGreatDoorWakesP2
namespace Go.Proofs.YtdkfmckbeagenaaGreatDoor
open Go.Ex
noncomputable def wakesB309 : Blk := (.cells true true (some (nat_lit 44)) [(.iface (nat_lit 63) (.agg [(.int .i8 (.ofNat (nat_lit 7))), .nils, (.str [(nat_lit 99), (nat_lit 110)]), (.str []), (.str []), .nils, (.str []), (.str []), (.bool false), (.bool false)])), (.iface (nat_lit 63) (.agg [(.int .i8 (.ofNat (nat_lit 7))), .nils, (.str [(nat_lit 99), (nat_lit 110)]), (.str []), (.str []), .nils, (.str []), (.str []), (.bool false), (.bool false)]))])
noncomputable def wakesRB310 : Tr Blk := Tr.nd (Tr.nd Tr.lf (some wakesB246) Tr.lf) none (Tr.nd Tr.lf (some wakesB309) Tr.lf)
noncomputable def wakesRB311 : Tr Blk := Tr.nd Tr.lf none wakesRB310
noncomputable def wakesRB312 : Tr Blk := Tr.nd wakesRB311 none Tr.lf
noncomputable def wakesRB313 : Tr Blk := Tr.nd wakesRB312 none Tr.lf
noncomputable def wakesRB314 : Tr Blk := Tr.nd wakesRB245 none wakesRB313
noncomputable def wakesB315 : Blk := (.cells true true (some (nat_lit 44)) [(.iface (nat_lit 63) (.agg [(.int .i8 (.ofNat (nat_lit 7))), .nils, (.str [(nat_lit 99), (nat_lit 110)]), (.str []), (.str []), .nils, (.str []), (.str []), (.bool false), (.bool false)])), (.iface (nat_lit 63) (.agg [(.int .i8 (.ofNat (nat_lit 7))), .nils, (.str [(nat_lit 99), (nat_lit 110)]), (.str []), (.str []), .nils, (.str []), (.str []), (.bool false), (.bool false)])), (.iface (nat_lit 63) (.agg [(.int .i8 (.ofNat (nat_lit 7))), .nils, (.str [(nat_lit 110), (nat_lit 111), (nat_lit 98), (nat_lit 111), (nat_lit 100), (nat_lit 121)]), (.str []), (.str []), .nils, (.str []), (.str []), (.bool false), (.bool false)]))])
noncomputable def wakesRB316 : Tr Blk := Tr.nd (Tr.nd Tr.lf (some wakesB315) Tr.lf) none Tr.lf
noncomputable def wakesRB317 : Tr Blk := Tr.nd Tr.lf none wakesRB316
noncomputable def wakesRB318 : Tr Blk := Tr.nd Tr.lf none wakesRB317
noncomputable def wakesRB319 : Tr Blk := Tr.nd wakesRB318 (some wakesB33) Tr.lf
noncomputable def wakesRB320 : Tr Blk := Tr.nd wakesRB255 none wakesRB319
noncomputable def wakesRB321 : Tr Blk := Tr.nd wakesRB314 none wakesRB320
noncomputable def wakesRB322 : Tr Blk := Tr.nd wakesRB321 none wakesRB264
noncomputable def wakesRB323 : Tr Blk := Tr.nd wakesRB244 (some wakesB47) wakesRB322
noncomputable def wakesV324 : AV := (.iface (nat_lit 66) (.agg [(.int .i8 (.ofNat (nat_lit 1))), (.sl (nat_lit 456) (nat_lit 0) (nat_lit 2) none (nat_lit 1))]))
noncomputable def wakesRV325 : Tr AV := Tr.nd (Tr.nd Tr.lf (some wakesV76) Tr.lf) (some wakesV52) (Tr.nd Tr.lf (some wakesV324) Tr.lf)
noncomputable def wakesRV326 : Tr AV := Tr.nd wakesRV268 (some wakesV270) wakesRV325
noncomputable def wakesRV327 : Tr AV := Tr.nd (Tr.nd Tr.lf (some wakesV53) Tr.lf) (some wakesV76) (Tr.nd Tr.lf (some wakesV267) Tr.lf)
noncomputable def wakesRV328 : Tr AV := Tr.nd (Tr.nd Tr.lf (some wakesV71) Tr.lf) none Tr.lf
noncomputable def wakesRV329 : Tr AV := Tr.nd wakesRV327 (some wakesV71) wakesRV328
noncomputable def wakesRV330 : Tr AV := Tr.nd wakesRV326 (some wakesV267) wakesRV329
noncomputable def wakesRV331 : Tr AV := Tr.nd (Tr.nd Tr.lf (some wakesV274) Tr.lf) (some wakesV275) (Tr.nd Tr.lf (some wakesV52) Tr.lf)
noncomputable def wakesRV332 : Tr AV := Tr.nd (Tr.nd Tr.lf (some wakesV53) Tr.lf) (some wakesV71) Tr.lf
noncomputable def wakesRV333 : Tr AV := Tr.nd wakesRV331 (some wakesV277) wakesRV332
noncomputable def wakesV334 : AV := (.iface (nat_lit 66) (.agg [(.int .i8 (.ofNat (nat_lit 1))), (.sl (nat_lit 364) (nat_lit 0) (nat_lit 3) none (nat_lit 1))]))
noncomputable def wakesRV335 : Tr AV := Tr.nd (Tr.nd Tr.lf (some wakesV275) Tr.lf) (some wakesV324) (Tr.nd Tr.lf (some wakesV334) Tr.lf)
noncomputable def wakesRV336 : Tr AV := Tr.nd wakesRV335 (some wakesV53) (Tr.nd Tr.lf (some wakesV274) Tr.lf)
noncomputable def wakesRV337 : Tr AV := Tr.nd wakesRV333 none wakesRV336
noncomputable def wakesRV338 : Tr AV := Tr.nd wakesRV330 (some wakesV52) wakesRV337
noncomputable def wakesH3 : Tr Blk := wakesRB323
noncomputable def wakesS3 : St := ⟨⟨16, 34, wakesRV338, [.code (navC [1, 1, 1, 1] (bodyOf Tryz.prog 16))], [], none, false⟩, [⟨15, 103, wakesRV308, [.inReg (wakesOps (navC [1, 1, 1, 1, 0] (bodyOf Tryz.prog 15))) 2 ((wakesOps (navC [1, 1, 1, 1, 0] (bodyOf Tryz.prog 15))).toList.drop 2), .code (navC [1, 1, 1, 1, 1] (bodyOf Tryz.prog 15))], [], none, false⟩], wakesH3, 494, 0, []⟩
theorem wakes_p3 : keepR [0, 13, 14, 15, 20, 23, 25, 26, 27, 28, 106, 117, 126, 128, 132, 133, 315, 319, 324, 326, 327, 328, 364, 456] (runTo Tryz.prog 12 ext wakesJ 20000 5732 wakesS2) = some wakesS3 := by kernel_rfl
end Go.Proofs.YtdkfmckbeagenaaGreatDoor

namespace Go.Proofs.YtdkfmckbeagenaaGreatDoor
open Go.Ex
noncomputable def wakesRB339 : Tr Blk := Tr.nd wakesRB224 none (Tr.nd Tr.lf (some wakesB5) Tr.lf)
noncomputable def wakesRB340 : Tr Blk := Tr.nd wakesRB339 none wakesRB236
noncomputable def wakesRB341 : Tr Blk := Tr.nd wakesRB247 none Tr.lf
noncomputable def wakesRB342 : Tr Blk := Tr.nd Tr.lf none wakesRB341
noncomputable def wakesRB343 : Tr Blk := Tr.nd wakesRB342 none Tr.lf
noncomputable def wakesRB344 : Tr Blk := Tr.nd wakesRB343 none Tr.lf
noncomputable def wakesRB345 : Tr Blk := Tr.nd wakesRB344 none (Tr.nd Tr.lf (some wakesB10) Tr.lf)
noncomputable def wakesRB346 : Tr Blk := Tr.nd wakesRB221 none Tr.lf
noncomputable def wakesRB347 : Tr Blk := Tr.nd wakesRB346 none Tr.lf
noncomputable def wakesRB348 : Tr Blk := Tr.nd Tr.lf none wakesRB347
noncomputable def wakesRB349 : Tr Blk := Tr.nd Tr.lf none wakesRB348
noncomputable def wakesRB350 : Tr Blk := Tr.nd wakesRB241 (some wakesB20) wakesRB349
noncomputable def wakesRB351 : Tr Blk := Tr.nd wakesRB345 none wakesRB350
noncomputable def wakesRB352 : Tr Blk := Tr.nd wakesRB340 none wakesRB351
noncomputable def wakesB353 : Blk := (.cells true false none [(.int .i8 (.ofNat (nat_lit 7))), .nils, (.str [(nat_lit 110), (nat_lit 111), (nat_lit 98), (nat_lit 111), (nat_lit 100), (nat_lit 121)]), (.str []), (.str []), .nils, (.str []), (.str []), (.bool false)])
noncomputable def wakesRB354 : Tr Blk := Tr.nd (Tr.nd Tr.lf (some wakesB353) Tr.lf) none Tr.lf
noncomputable def wakesRB355 : Tr Blk := Tr.nd wakesRB354 none Tr.lf
noncomputable def wakesRB356 : Tr Blk := Tr.nd (Tr.nd Tr.lf (some wakesB24) Tr.lf) none wakesRB355
noncomputable def wakesRB357 : Tr Blk := Tr.nd wakesRB356 none Tr.lf
noncomputable def wakesRB358 : Tr Blk := Tr.nd wakesRB357 none Tr.lf
noncomputable def wakesRB359 : Tr Blk := Tr.nd wakesRB358 none Tr.lf
noncomputable def wakesRB360 : Tr Blk := Tr.nd wakesRB359 none wakesRB256
noncomputable def wakesB361 : Blk := (.cells true false (some (nat_lit 26)) [(.int .i8 (.ofNat (nat_lit 7))), (.sl (nat_lit 573) (nat_lit 0) (nat_lit 0) (some (nat_lit 0)) (nat_lit 9)), (.str [(nat_lit 99), (nat_lit 110)]), (.str []), (.str []), .nils, (.str []), (.str []), (.bool false)])
noncomputable def wakesRB362 : Tr Blk := Tr.nd (Tr.nd Tr.lf (some wakesB361) Tr.lf) none Tr.lf
noncomputable def wakesRB363 : Tr Blk := Tr.nd wakesRB362 none Tr.lf
noncomputable def wakesRB364 : Tr Blk := Tr.nd wakesRB363 (some wakesB32) Tr.lf
noncomputable def wakesRB365 : Tr Blk := Tr.nd Tr.lf none wakesRB364
noncomputable def wakesRB366 : Tr Blk := Tr.nd Tr.lf none wakesRB365
noncomputable def wakesRB367 : Tr Blk := Tr.nd wakesRB262 (some wakesB43) wakesRB366
noncomputable def wakesRB368 : Tr Blk := Tr.nd wakesRB40 none wakesRB367
noncomputable def wakesRB369 : Tr Blk := Tr.nd wakesRB360 none wakesRB368
noncomputable def wakesRB370 : Tr Blk := Tr.nd wakesRB352 (some wakesB47) wakesRB369
noncomputable def wakesRV371 : Tr AV := Tr.nd (Tr.nd Tr.lf (some wakesV297) Tr.lf) (some wakesV53) Tr.lf
noncomputable def wakesV372 : AV := .nili
noncomputable def wakesRV373 : Tr AV := Tr.nd (Tr.nd Tr.lf (some wakesV85) Tr.lf) (some wakesV52) (Tr.nd Tr.lf (some wakesV372) Tr.lf)
noncomputable def wakesV374 : AV := (.ptr (nat_lit 576) (nat_lit 0))
noncomputable def wakesRV375 : Tr AV := Tr.nd wakesRV371 (some wakesV374) wakesRV373
noncomputable def wakesRV376 : Tr AV := Tr.nd (Tr.nd Tr.lf (some wakesV53) Tr.lf) (some wakesV85) (Tr.nd Tr.lf (some wakesV297) Tr.lf)
noncomputable def wakesRV377 : Tr AV := Tr.nd wakesRV376 (some wakesV71) wakesRV328
noncomputable def wakesRV378 : Tr AV := Tr.nd wakesRV375 (some wakesV297) wakesRV377
noncomputable def wakesV379 : AV := (.tup [(.int .i64 (.ofNat (nat_lit 0))), (.int .i64 (.ofNat (nat_lit 1))), (.int .i64 (.ofNat (nat_lit 1)))])
noncomputable def wakesRV380 : Tr AV := Tr.nd (Tr.nd Tr.lf (some wakesV379) Tr.lf) (some wakesV85) (Tr.nd Tr.lf (some wakesV52) Tr.lf)
noncomputable def wakesV381 : AV := (.ptr (nat_lit 577) (nat_lit 0))
noncomputable def wakesRV382 : Tr AV := Tr.nd wakesRV380 (some wakesV381) wakesRV332
noncomputable def wakesV383 : AV := (.iface (nat_lit 63) (.agg [(.int .i8 (.ofNat (nat_lit 7))), .nils, (.str [(nat_lit 110), (nat_lit 111), (nat_lit 98), (nat_lit 111), (nat_lit 100), (nat_lit 121)]), (.str []), (.str []), .nils, (.str []), (.str []), (.bool false), (.bool false)]))
noncomputable def wakesRV384 : Tr AV := Tr.nd (Tr.nd Tr.lf (some wakesV85) Tr.lf) (some wakesV372) (Tr.nd Tr.lf (some wakesV383) Tr.lf)
noncomputable def wakesRV385 : Tr AV := Tr.nd wakesRV384 (some wakesV53) (Tr.nd Tr.lf (some wakesV379) Tr.lf)
noncomputable def wakesRV386 : Tr AV := Tr.nd wakesRV382 none wakesRV385
noncomputable def wakesRV387 : Tr AV := Tr.nd wakesRV378 (some wakesV52) wakesRV386
noncomputable def wakesV388 : AV := (.ptr (nat_lit 574) (nat_lit 0))
noncomputable def wakesRV389 : Tr AV := Tr.nd wakesRV283 (some wakesV388) (Tr.nd Tr.lf (some wakesV284) Tr.lf)
noncomputable def wakesV390 : AV := (.tup [(.agg [(.int .i8 (.ofNat (nat_lit 7))), (.sl (nat_lit 573) (nat_lit 0) (nat_lit 0) (some (nat_lit 0)) (nat_lit 9)), (.str [(nat_lit 99), (nat_lit 110)]), (.str []), (.str []), .nils, (.str []), (.str []), (.bool false)]), (.bool true), (.int .i64 (.ofNat (nat_lit 0)))])
noncomputable def wakesRV391 : Tr AV := Tr.nd (Tr.nd Tr.lf (some wakesV390) Tr.lf) (some wakesV52) Tr.lf
noncomputable def wakesRV392 : Tr AV := Tr.nd wakesRV391 none (Tr.nd Tr.lf (some wakesV286) Tr.lf)
noncomputable def wakesRV393 : Tr AV := Tr.nd wakesRV389 (some wakesV53) wakesRV392
noncomputable def wakesRV394 : Tr AV := Tr.nd (Tr.nd Tr.lf (some wakesV297) Tr.lf) (some wakesV290) Tr.lf
noncomputable def wakesRV395 : Tr AV := Tr.nd wakesRV289 (some wakesV53) wakesRV394
noncomputable def wakesRV396 : Tr AV := Tr.nd (Tr.nd Tr.lf (some wakesV87) Tr.lf) (some wakesV53) Tr.lf
noncomputable def wakesRV397 : Tr AV := Tr.nd wakesRV396 none (Tr.nd Tr.lf (some wakesV286) Tr.lf)
noncomputable def wakesRV398 : Tr AV := Tr.nd wakesRV395 (some wakesV293) wakesRV397
noncomputable def wakesRV399 : Tr AV := Tr.nd wakesRV393 (some wakesV52) wakesRV398
noncomputable def wakesRV400 : Tr AV := Tr.nd (Tr.nd Tr.lf (some wakesV390) Tr.lf) (some wakesV296) Tr.lf
noncomputable def wakesRV401 : Tr AV := Tr.nd (Tr.nd Tr.lf (some wakesV52) Tr.lf) (some wakesV297) Tr.lf
noncomputable def wakesRV402 : Tr AV := Tr.nd wakesRV400 (some wakesV87) wakesRV401
noncomputable def wakesV403 : AV := (.agg [(.int .i8 (.ofNat (nat_lit 7))), (.sl (nat_lit 573) (nat_lit 0) (nat_lit 0) (some (nat_lit 0)) (nat_lit 9)), (.str [(nat_lit 99), (nat_lit 110)]), (.str []), (.str []), .nils, (.str []), (.str []), (.bool false)])
noncomputable def wakesRV404 : Tr AV := Tr.nd (Tr.nd Tr.lf (some wakesV403) Tr.lf) (some wakesV53) Tr.lf
noncomputable def wakesRV405 : Tr AV := Tr.nd wakesRV404 none (Tr.nd Tr.lf (some wakesV267) Tr.lf)
noncomputable def wakesRV406 : Tr AV := Tr.nd wakesRV402 (some wakesV300) wakesRV405
noncomputable def wakesRV407 : Tr AV := Tr.nd (Tr.nd Tr.lf (some wakesV53) Tr.lf) (some wakesV284) Tr.lf
noncomputable def wakesRV408 : Tr AV := Tr.nd wakesRV407 none (Tr.nd Tr.lf (some wakesV304) Tr.lf)
noncomputable def wakesRV409 : Tr AV := Tr.nd wakesRV303 (some wakesV53) wakesRV408
noncomputable def wakesRV410 : Tr AV := Tr.nd wakesRV406 (some wakesV53) wakesRV409
noncomputable def wakesRV411 : Tr AV := Tr.nd wakesRV399 (some wakesV71) wakesRV410
noncomputable def wakesH4 : Tr Blk := wakesRB370
noncomputable def wakesS4 : St := ⟨⟨16, 34, wakesRV387, [.code (navC [1, 1, 1, 1] (bodyOf Tryz.prog 16))], [], none, false⟩, [⟨15, 103, wakesRV411, [.inReg (wakesOps (navC [1, 1, 1, 1, 1, 0] (bodyOf Tryz.prog 15))) 2 ((wakesOps (navC [1, 1, 1, 1, 1, 0] (bodyOf Tryz.prog 15))).toList.drop 2), .code (navC [1, 1, 1, 1, 1, 1] (bodyOf Tryz.prog 15))], [], none, false⟩], wakesH4, 624, 0, []⟩
theorem wakes_p4 : keepR [0, 13, 14, 15, 20, 23, 25, 26, 27, 28, 106, 117, 126, 128, 132, 133, 315, 319, 324, 326, 573, 574, 576, 577] (runTo Tryz.prog 12 ext wakesJ 20000 3678 wakesS3) = some wakesS4 := by kernel_rfl
end Go.Proofs.YtdkfmckbeagenaaGreatDoor
