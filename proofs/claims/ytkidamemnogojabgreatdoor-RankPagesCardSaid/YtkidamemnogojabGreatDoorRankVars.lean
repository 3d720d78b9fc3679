/-
  What the rows' lists of variables give.
-/
import Derived.Test.YtkidamemnogojabGreatDoorRankW3
import Derived.Test.YtkidamemnogojabGreatDoorRows
import Derived.Stop.LaidErr
import Derived.Lib.LaidTab
import Derived.LaidLaws
namespace Go.Proofs.YtkidamemnogojabGreatDoor
open Go.RowKit Go.RankLaw Go.Lib Go.ChangeShapes

theorem star_name : "*" ++ "errors.errorString" = "*errors.errorString" := by decide
theorem row169 (u : TypeId) (h : Tryz.prog.typeName? 3 u = some "*errors.errorString") : u = 169 :=
  typeName_ptr_named (nm := "errors.errorString") (by rw [star_name]; kernel_rfl) (by kernel_rfl) (by decide) u (by rw [star_name]; exact h)
theorem vars_of_laid {W : World} (h : laidMet Tryz.prog Rows.rankPagesRow.laid W) : Vars W := by
  have h2 := h.tail.tail
  have h4 := h2.tail.tail
  have h5 := h4.tail
  refine ⟨tabIs_of_head (g := 3) (t := 174) (e := 26) (n := 20) (by kernel_rfl) (by kernel_rfl) (by kernel_rfl) Tryz.underlying26 (by kernel_rfl) (by kernel_rfl) h2, ?_, ?_⟩
  · obtain ⟨a, s, h0, _⟩ := laid_sentinel h5 (g := 0) (by kernel_rfl) (by kernel_rfl) Tryz.underlying34 row169 Tryz.underlying169 Tryz.underlying171 rfl rfl Tryz.underlying9 (by kernel_rfl) (by kernel_rfl)
    exact ⟨_, _, h0⟩
  · obtain ⟨a, s, h0, _⟩ := laid_sentinel h4 (g := 1) (by kernel_rfl) (by kernel_rfl) Tryz.underlying34 row169 Tryz.underlying169 Tryz.underlying171 rfl rfl Tryz.underlying9 (by kernel_rfl) (by kernel_rfl)
    exact ⟨_, _, h0⟩
theorem size_of {W : World} (h : W.ShapedOpen Tryz.prog) : 10 ≤ W.heap.size := by
  obtain ⟨h1, _⟩ := h
  have hk : (((begin Tryz.prog (fun _ _ => 0) default).world.heap[9]?).bind Obj.row?).isSome = true := by kernel_rfl
  obtain ⟨⟨zero, t⟩, hz⟩ := Option.isSome_iff_exists.1 hk
  obtain ⟨cs, hcs, _⟩ := h1 9 zero t (by decide) hz
  exact (Array.getElem?_eq_some_iff.1 hcs).1
end Go.Proofs.YtkidamemnogojabGreatDoor
