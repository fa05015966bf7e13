/- What a row's listed variables give: the table of powers of ten; the error of a number out of range. -/
import Derived.Test.YtfkobhagdjaleaaGreatDoorT6
import Derived.Test.YtfkobhagdjaleaaGreatDoorT2
import Derived.LaidSub
import Derived.LaidLaws
import Derived.Stop.LaidErr
namespace Go.Proofs.YtfkobhagdjaleaaGreatDoor.Sp
open Go.ChangeShapes Go.WideShapes Go.ChangeAt Go.RowKit

def pow10Row : List (String × DataW Unit) := [("internal/strconv.uint64pow10", Lib.tabData .u64 Lib.pow10Tab)]
theorem pow10_of {W : World} {l : List (String × DataW Unit)} (hl : (l.filter fun x => x.1 == "internal/strconv.uint64pow10") = pow10Row) (h : laidMet Tryz.prog l W) : Pow10 W := by
  have h2 := laidMet.filter (fun x => x.1 == "internal/strconv.uint64pow10") h
  rw [hl] at h2
  exact Lib.tabIs_of_head (g := 3) (by kernel_rfl) (by kernel_rfl) Tryz.underlying129 Tryz.underlying91 (by kernel_rfl) (by kernel_rfl) h2

def rangeRow : List (String × DataW Unit) := [("strconv.ErrRange", .iface "*errors.errorString" (.ptr (.agg [.lit (.string [118, 97, 108, 117, 101, 32, 111, 117, 116, 32, 111, 102, 32, 114, 97, 110, 103, 101])])))]
theorem starE : "*" ++ "errors.errorString" = "*errors.errorString" := by decide
theorem rowE (u : TypeId) (h : Tryz.prog.typeName? 3 u = some "*errors.errorString") : u = 136 :=
  typeName_ptr_named (nm := "errors.errorString") (by rw [starE]; kernel_rfl) (by kernel_rfl) (by decide) u (by rw [starE]; exact h)
theorem range_of {W : World} {l : List (String × DataW Unit)} (hl : (l.filter fun x => x.1 == "strconv.ErrRange") = rangeRow) (h : laidMet Tryz.prog l W) : RangeV W := by
  have h2 := laidMet.filter (fun x => x.1 == "strconv.ErrRange") h
  rw [hl] at h2
  have hg : Tryz.prog.globalNamed "strconv.ErrRange" = some 2 := by kernel_rfl
  obtain ⟨a, s, hv, -, -, -⟩ := laid_sentinel (ts := 9) h2 hg (by kernel_rfl) Tryz.underlying62 rowE Tryz.underlying136 Tryz.underlying138 rfl rfl Tryz.underlying9 (by kernel_rfl) (by kernel_rfl)
  exact ⟨_, by have h0 := World.var?_cell hg hv 0; simpa using h0, Or.inr ⟨_, _, rfl⟩⟩
end Go.Proofs.YtfkobhagdjaleaaGreatDoor.Sp
