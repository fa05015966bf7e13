/- The order of HopCalls' last region, checked a part at a time. -/
import Derived.Test.YtmmldoleillelaaDoorReg3
import Derived.Test.YtmmldoleillelaaDoorRows
namespace Go.Proofs.YtmmldoleillelaaDoor.Sp
open Go.RowKit Reg

noncomputable def opsC : List Oper := regOf Tryd.f7 0
def piC0 : List Nat := [0, 1, 2, 3, 4, 5, 6, 7, 8, 9, 10, 11, 12, 13]
def piC1 : List Nat := [14, 15, 16, 17, 18, 19, 20, 21, 22, 23, 24, 25, 26, 27]
def piC2 : List Nat := [28, 29, 30, 31, 32, 33, 34, 35, 36, 37, 38, 39, 40, 41]
def piC3 : List Nat := [42, 43, 44, 45, 46, 47, 48, 49, 50, 51, 52, 53, 54, 55]
def piC4 : List Nat := [56, 57, 58, 59, 60, 61, 62, 64, 63, 65, 66, 67, 68, 69]
def piC5 : List Nat := [70, 72, 73, 71, 74, 75, 76, 77, 78, 79, 80, 81, 83, 84]
def piC6 : List Nat := [85, 86, 82, 87, 88, 89, 90, 91, 93, 92, 94, 95, 96, 97]
def laidC0 : Array Bool := Array.replicate 98 false
def laidC1 : Array Bool := #[true, true, true, true, true, true, true, true, true, true, true, true, true, true, false, false, false, false, false, false, false, false, false, false, false, false, false, false, false, false, false, false, false, false, false, false, false, false, false, false, false, false, false, false, false, false, false, false, false, false, false, false, false, false, false, false, false, false, false, false, false, false, false, false, false, false, false, false, false, false, false, false, false, false, false, false, false, false, false, false, false, false, false, false, false, false, false, false, false, false, false, false, false, false, false, false, false, false]
def laidC2 : Array Bool := #[true, true, true, true, true, true, true, true, true, true, true, true, true, true, true, true, true, true, true, true, true, true, true, true, true, true, true, true, false, false, false, false, false, false, false, false, false, false, false, false, false, false, false, false, false, false, false, false, false, false, false, false, false, false, false, false, false, false, false, false, false, false, false, false, false, false, false, false, false, false, false, false, false, false, false, false, false, false, false, false, false, false, false, false, false, false, false, false, false, false, false, false, false, false, false, false, false, false]
def laidC3 : Array Bool := #[true, true, true, true, true, true, true, true, true, true, true, true, true, true, true, true, true, true, true, true, true, true, true, true, true, true, true, true, true, true, true, true, true, true, true, true, true, true, true, true, true, true, false, false, false, false, false, false, false, false, false, false, false, false, false, false, false, false, false, false, false, false, false, false, false, false, false, false, false, false, false, false, false, false, false, false, false, false, false, false, false, false, false, false, false, false, false, false, false, false, false, false, false, false, false, false, false, false]
def laidC4 : Array Bool := #[true, true, true, true, true, true, true, true, true, true, true, true, true, true, true, true, true, true, true, true, true, true, true, true, true, true, true, true, true, true, true, true, true, true, true, true, true, true, true, true, true, true, true, true, true, true, true, true, true, true, true, true, true, true, true, true, false, false, false, false, false, false, false, false, false, false, false, false, false, false, false, false, false, false, false, false, false, false, false, false, false, false, false, false, false, false, false, false, false, false, false, false, false, false, false, false, false, false]
def laidC5 : Array Bool := #[true, true, true, true, true, true, true, true, true, true, true, true, true, true, true, true, true, true, true, true, true, true, true, true, true, true, true, true, true, true, true, true, true, true, true, true, true, true, true, true, true, true, true, true, true, true, true, true, true, true, true, true, true, true, true, true, true, true, true, true, true, true, true, true, true, true, true, true, true, true, false, false, false, false, false, false, false, false, false, false, false, false, false, false, false, false, false, false, false, false, false, false, false, false, false, false, false, false]
def laidC6 : Array Bool := #[true, true, true, true, true, true, true, true, true, true, true, true, true, true, true, true, true, true, true, true, true, true, true, true, true, true, true, true, true, true, true, true, true, true, true, true, true, true, true, true, true, true, true, true, true, true, true, true, true, true, true, true, true, true, true, true, true, true, true, true, true, true, true, true, true, true, true, true, true, true, true, true, true, true, true, true, true, true, true, true, true, true, false, true, true, false, false, false, false, false, false, false, false, false, false, false, false, false]
theorem stepC0 : mixP .any opsC.toArray piC0 laidC0 = true := by kernel_rfl
theorem layC0 : lay laidC0 piC0 = laidC1 := by kernel_rfl
theorem stepC1 : mixP .any opsC.toArray piC1 laidC1 = true := by kernel_rfl
theorem layC1 : lay laidC1 piC1 = laidC2 := by kernel_rfl
theorem stepC2 : mixP .any opsC.toArray piC2 laidC2 = true := by kernel_rfl
theorem layC2 : lay laidC2 piC2 = laidC3 := by kernel_rfl
theorem stepC3 : mixP .any opsC.toArray piC3 laidC3 = true := by kernel_rfl
theorem layC3 : lay laidC3 piC3 = laidC4 := by kernel_rfl
theorem stepC4 : mixP .any opsC.toArray piC4 laidC4 = true := by kernel_rfl
theorem layC4 : lay laidC4 piC4 = laidC5 := by kernel_rfl
theorem stepC5 : mixP .any opsC.toArray piC5 laidC5 = true := by kernel_rfl
theorem layC5 : lay laidC5 piC5 = laidC6 := by kernel_rfl
theorem endC : mixB .any opsC.toArray piC6 laidC6 = true := by kernel_rfl
theorem planC : mixB .any opsC.toArray (piC0 ++ (piC1 ++ (piC2 ++ (piC3 ++ (piC4 ++ (piC5 ++ piC6)))))) laidC0 = true :=
  mixB_app stepC0 (by rw [layC0]; exact mixB_app stepC1 (by rw [layC1]; exact mixB_app stepC2 (by rw [layC2]; exact mixB_app stepC3 (by rw [layC3]; exact mixB_app stepC4 (by rw [layC4]; exact mixB_app stepC5 (by rw [layC5]; exact endC))))))
theorem sizeC : opsC.toArray.size = 98 := by kernel_rfl
theorem planC' : mixB .any opsC.toArray (piC0 ++ (piC1 ++ (piC2 ++ (piC3 ++ (piC4 ++ (piC5 ++ piC6)))))) (Array.replicate opsC.toArray.size false) = true := by rw [sizeC]; exact planC
theorem selC : Region.noSelect opsC.toArray = true := by kernel_rfl
end Go.Proofs.YtmmldoleillelaaDoor.Sp
