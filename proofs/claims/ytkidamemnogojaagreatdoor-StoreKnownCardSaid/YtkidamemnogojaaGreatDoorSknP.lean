/-
  The run of function 6 in parts: the last part; it answers true.
-/
import Derived.Test.YtkidamemnogojaaGreatDoorSknP14
namespace Go.Proofs.YtkidamemnogojaaGreatDoor
open Go.Ex
noncomputable def sknB1392 : Blk := (.map true [] (nat_lit 3))
noncomputable def sknRB1393 : Tr Blk := Tr.nd (Tr.nd Tr.lf (some sknB1392) Tr.lf) none Tr.lf
noncomputable def sknRB1394 : Tr Blk := Tr.nd sknRB796 none sknRB1393
noncomputable def sknRB1395 : Tr Blk := Tr.nd sknRB1394 none sknRB1228
noncomputable def sknRB1396 : Tr Blk := Tr.nd sknRB1032 none sknRB1395
noncomputable def sknRB1397 : Tr Blk := Tr.nd (Tr.nd Tr.lf (some sknB4) Tr.lf) none sknRB598
noncomputable def sknRB1398 : Tr Blk := Tr.nd sknRB1397 none sknRB700
noncomputable def sknRB1399 : Tr Blk := Tr.nd sknRB1396 (some sknB8) sknRB1398
noncomputable def sknRB1400 : Tr Blk := Tr.nd sknRB207 none sknRB1246
noncomputable def sknRB1401 : Tr Blk := Tr.nd Tr.lf none (Tr.nd Tr.lf (some sknB1392) Tr.lf)
noncomputable def sknRB1402 : Tr Blk := Tr.nd sknRB1401 none Tr.lf
noncomputable def sknB1403 : Blk := (.cells true true (some (nat_lit 164)) [(.sl (nat_lit 1685) (nat_lit 0) (nat_lit 0) (some (nat_lit 1)) (nat_lit 2))])
noncomputable def sknRB1404 : Tr Blk := Tr.nd (Tr.nd Tr.lf (some sknB1403) Tr.lf) none Tr.lf
noncomputable def sknRB1405 : Tr Blk := Tr.nd Tr.lf none sknRB1404
noncomputable def sknRB1406 : Tr Blk := Tr.nd sknRB1405 none sknRB1164
noncomputable def sknRB1407 : Tr Blk := Tr.nd sknRB1406 none Tr.lf
noncomputable def sknRB1408 : Tr Blk := Tr.nd sknRB1402 none sknRB1407
noncomputable def sknRB1409 : Tr Blk := Tr.nd sknRB1400 none sknRB1408
noncomputable def sknB1410 : Blk := (.cells true false none [(.fn (nat_lit 52) [] []), (.sl (nat_lit 665) (nat_lit 0) (nat_lit 0) none (nat_lit 1)), (.int .i64 (.ofNat (nat_lit 0)))])
noncomputable def sknRB1411 : Tr Blk := Tr.nd Tr.lf none (Tr.nd Tr.lf (some sknB1410) Tr.lf)
noncomputable def sknRB1412 : Tr Blk := Tr.nd sknRB1411 none sknRB612
noncomputable def sknRB1413 : Tr Blk := Tr.nd sknRB809 none sknRB1393
noncomputable def sknRB1414 : Tr Blk := Tr.nd sknRB1412 (some sknB10) sknRB1413
noncomputable def sknRB1415 : Tr Blk := Tr.nd sknRB1264 none sknRB1414
noncomputable def sknRB1416 : Tr Blk := Tr.nd sknRB1409 none sknRB1415
noncomputable def sknRB1417 : Tr Blk := Tr.nd sknRB1399 (some sknB21) sknRB1416
noncomputable def sknRB1418 : Tr Blk := Tr.nd Tr.lf none sknRB1246
noncomputable def sknRB1419 : Tr Blk := Tr.nd sknRB1418 none Tr.lf
noncomputable def sknRB1420 : Tr Blk := Tr.nd sknRB1419 none Tr.lf
noncomputable def sknRB1421 : Tr Blk := Tr.nd sknRB159 none sknRB1420
noncomputable def sknRB1422 : Tr Blk := Tr.nd sknRB238 none sknRB726
noncomputable def sknRB1423 : Tr Blk := Tr.nd sknRB1421 none sknRB1422
noncomputable def sknRB1424 : Tr Blk := Tr.nd sknRB1280 none sknRB1423
noncomputable def sknRB1425 : Tr Blk := Tr.nd sknRB1424 (some sknB39) sknRB1298
noncomputable def sknRB1426 : Tr Blk := Tr.nd sknRB1417 none sknRB1425
noncomputable def sknRV1427 : Tr AV := Tr.nd (Tr.nd Tr.lf (some sknV369) Tr.lf) (some sknV427) (Tr.nd Tr.lf (some sknV369) Tr.lf)
noncomputable def sknRV1428 : Tr AV := Tr.nd sknRV1427 none sknRV1302
noncomputable def sknRV1429 : Tr AV := Tr.nd (Tr.nd Tr.lf (some sknV371) Tr.lf) (some sknV382) (Tr.nd Tr.lf (some sknV382) Tr.lf)
noncomputable def sknRV1430 : Tr AV := Tr.nd (Tr.nd Tr.lf (some sknV369) Tr.lf) (some sknV42) Tr.lf
noncomputable def sknRV1431 : Tr AV := Tr.nd sknRV1429 (some sknV42) sknRV1430
noncomputable def sknRV1432 : Tr AV := Tr.nd sknRV1428 (some sknV382) sknRV1431
noncomputable def sknRV1433 : Tr AV := Tr.nd (Tr.nd Tr.lf (some sknV369) Tr.lf) (some sknV369) (Tr.nd Tr.lf (some sknV265) Tr.lf)
noncomputable def sknRV1434 : Tr AV := Tr.nd sknRV1433 (some sknV42) sknRV1430
noncomputable def sknRV1435 : Tr AV := Tr.nd (Tr.nd Tr.lf (some sknV380) Tr.lf) (some sknV427) (Tr.nd Tr.lf (some sknV101) Tr.lf)
noncomputable def sknRV1436 : Tr AV := Tr.nd sknRV1435 (some sknV42) sknRV1193
noncomputable def sknRV1437 : Tr AV := Tr.nd sknRV1434 none sknRV1436
noncomputable def sknRV1438 : Tr AV := Tr.nd sknRV1432 (some sknV369) sknRV1437
noncomputable def sknH15 : Tr Blk := sknRB1426
noncomputable def sknS15 : St := ⟨⟨20, 28, sknRV1438, [.code (navC [1, 1, 1] (bodyOf Tryz.prog 20))], [], none, false⟩, [⟨6, 175, sknRV1391, [.inReg (sknOps (navC [1, 1, 1, 1, 1, 1, 1, 1, 1, 1, 1, 1, 1, 0] (bodyOf Tryz.prog 6))) 14 ((sknOps (navC [1, 1, 1, 1, 1, 1, 1, 1, 1, 1, 1, 1, 1, 0] (bodyOf Tryz.prog 6))).toList.drop 14), .code (navC [1, 1, 0, 1, 0, 1] (bodyOf Tryz.prog 6))], [], none, false⟩], sknH15, 1832, 0, []⟩
theorem skn_p15 : keepR [1, 2, 3, 22, 24, 27, 29, 31, 33, 34, 35, 36, 138, 143, 144, 155, 164, 166, 167, 168, 188, 189, 190, 191, 192, 193, 194, 200, 201, 202, 203, 204, 205, 206, 208, 209, 210, 665, 672, 674, 680, 685, 687, 688, 690, 691, 693, 694, 695, 699, 700, 702, 703, 704, 732, 733, 734, 735, 837, 838, 839, 976, 978, 984, 989, 991, 992, 1006, 1007, 1368, 1369, 1376, 1684, 1685] (runTo Tryz.prog 11 ext5 sknJ 20000 249 sknS14) = some sknS15 := by kernel_rfl
theorem skn_end : (match run Tryz.prog 11 ext5 sknJ 20000 sknS15 with | some (.bool b, _) => b | _ => false) = true := by kernel_rfl
theorem skn_lead : Leads Tryz.prog 11 sknS0 sknS15 := ((part_keeps noNum ext5Ok mixed skn_p1 rfl).trans ((part_keeps noNum ext5Ok mixed skn_p2 rfl).trans ((part_keeps noNum ext5Ok mixed skn_p3 rfl).trans ((part_keeps noNum ext5Ok mixed skn_p4 rfl).trans ((part_keeps noNum ext5Ok mixed skn_p5 rfl).trans ((part_keeps noNum ext5Ok mixed skn_p6 rfl).trans ((part_keeps noNum ext5Ok mixed skn_p7 rfl).trans ((part_keeps noNum ext5Ok mixed skn_p8 rfl).trans ((part_keeps noNum ext5Ok mixed skn_p9 rfl).trans ((part_keeps noNum ext5Ok mixed skn_p10 rfl).trans ((part_keeps noNum ext5Ok mixed skn_p11 rfl).trans ((part_keeps noNum ext5Ok mixed skn_p12 rfl).trans ((part_keeps noNum ext5Ok mixed skn_p13 rfl).trans ((part_keeps noNum ext5Ok mixed skn_p14 rfl).trans (part_keeps noNum ext5Ok mixed skn_p15 rfl)))))))))))))))
theorem skn_enter : ∃ fr, enterA Tryz.prog 6 [] = some fr ∧ sknS0 = { fr, cs := [], hp := heapOf varsOf1, nx := 11, lb := 0, wl := [] } := by
  have h : (enterA Tryz.prog 6 []).isSome = true := by kernel_rfl
  unfold sknS0
  cases hq : enterA Tryz.prog 6 [] with
  | none => rw [hq] at h; cases h
  | some fr => exact ⟨fr, rfl, rfl⟩
/-- The call answers true in whatever world that holds the variables. -/
theorem skn_true {σ : Sg} {w : World} (hL : ∀ p ∈ varsOf1, p.1 < 11) (hrel : Rel w.heap.size 11 σ (heapOf varsOf1) w) (hf : ∀ i, 11 ≤ i → σ i = none) :
    Calls Tryz.prog 6 #[] w fun e w' => e = .returned (.bool true) ∧ RowKit.Below w.heap.size w w' := by
  obtain ⟨fr, h1, h2⟩ := skn_enter
  have hl := skn_lead
  rw [h2] at hl
  refine true_parts (J := sknJ) (n := 20000) (s1 := sknS15) noNum ext5Ok mixed h1 hL hl ?_ .nil hrel hf
  have he := skn_end
  generalize run Tryz.prog 11 ext5 sknJ 20000 sknS15 = x at he ⊢
  exact he
end Go.Proofs.YtkidamemnogojaaGreatDoor
