/- The order of a region, checked a part at a time. -/
import Derived.Test.YtmmldoleillelaaDoorReg3
import Derived.Test.YtmmldoleillelaaDoorRows
namespace Go.Proofs.YtmmldoleillelaaDoor.Sp
open Go.RowKit Reg

noncomputable def opsN : List Oper := regOf Tryd.f6 0
def piN0 : List Nat := [0, 1, 2, 3, 4, 5, 6, 7, 8, 9, 10, 11, 12, 13]
def piN1 : List Nat := [14, 15, 16, 17, 18, 19, 20, 21, 22, 23, 24, 25, 26, 27]
def piN2 : List Nat := [28, 29, 30, 31, 32, 33, 34, 35, 36, 37, 38, 39, 40, 41]
def piN3 : List Nat := [42, 43, 44, 45, 46, 47, 48, 49, 50, 51, 52, 53, 54, 55]
def piN4 : List Nat := [56, 57, 58, 59, 60, 61, 62, 63, 64, 65, 66, 67, 68, 69]
def laidN0 : Array Bool := Array.replicate 70 false
def laidN1 : Array Bool := #[true, true, true, true, true, true, true, true, true, true, true, true, true, true, false, false, false, false, false, false, false, false, false, false, false, false, false, false, false, false, false, false, false, false, false, false, false, false, false, false, false, false, false, false, false, false, false, false, false, false, false, false, false, false, false, false, false, false, false, false, false, false, false, false, false, false, false, false, false, false]
def laidN2 : Array Bool := #[true, true, true, true, true, true, true, true, true, true, true, true, true, true, true, true, true, true, true, true, true, true, true, true, true, true, true, true, false, false, false, false, false, false, false, false, false, false, false, false, false, false, false, false, false, false, false, false, false, false, false, false, false, false, false, false, false, false, false, false, false, false, false, false, false, false, false, false, false, false]
def laidN3 : Array Bool := #[true, true, true, true, true, true, true, true, true, true, true, true, true, true, true, true, true, true, true, true, true, true, true, true, true, true, true, true, true, true, true, true, true, true, true, true, true, true, true, true, true, true, false, false, false, false, false, false, false, false, false, false, false, false, false, false, false, false, false, false, false, false, false, false, false, false, false, false, false, false]
def laidN4 : Array Bool := #[true, true, true, true, true, true, true, true, true, true, true, true, true, true, true, true, true, true, true, true, true, true, true, true, true, true, true, true, true, true, true, true, true, true, true, true, true, true, true, true, true, true, true, true, true, true, true, true, true, true, true, true, true, true, true, true, false, false, false, false, false, false, false, false, false, false, false, false, false, false]
theorem stepN0 : mixP .any opsN.toArray piN0 laidN0 = true := by kernel_rfl
theorem layN0 : lay laidN0 piN0 = laidN1 := by kernel_rfl
theorem stepN1 : mixP .any opsN.toArray piN1 laidN1 = true := by kernel_rfl
theorem layN1 : lay laidN1 piN1 = laidN2 := by kernel_rfl
theorem stepN2 : mixP .any opsN.toArray piN2 laidN2 = true := by kernel_rfl
theorem layN2 : lay laidN2 piN2 = laidN3 := by kernel_rfl
theorem stepN3 : mixP .any opsN.toArray piN3 laidN3 = true := by kernel_rfl
theorem layN3 : lay laidN3 piN3 = laidN4 := by kernel_rfl
theorem endN : mixB .any opsN.toArray piN4 laidN4 = true := by kernel_rfl
theorem planN : mixB .any opsN.toArray (piN0 ++ (piN1 ++ (piN2 ++ (piN3 ++ (piN4))))) laidN0 = true :=
  mixB_app stepN0 (by rw [layN0]; exact mixB_app stepN1 (by rw [layN1]; exact mixB_app stepN2 (by rw [layN2]; exact mixB_app stepN3 (by rw [layN3]; exact endN))))
theorem sizeN : opsN.toArray.size = 70 := by kernel_rfl
theorem planN' : mixB .any opsN.toArray (piN0 ++ (piN1 ++ (piN2 ++ (piN3 ++ (piN4))))) (Array.replicate opsN.toArray.size false) = true := by rw [sizeN]; exact planN
theorem selN : Region.noSelect opsN.toArray = true := by kernel_rfl
end Go.Proofs.YtmmldoleillelaaDoor.Sp
