/- Sets of names: by the program. -/
import Derived.Test.YtfohhhdebinikaaGreatDoorC5
import Derived.Maps.OwnSet
import Derived.Maps.Views
import Derived.StringKeys
namespace Go.Proofs.YtfohhhdebinikaaGreatDoor.Sp
open Go.RowKit Sl Go.Maps

def low (x : ByteArray) : ByteArray := ofL (lower x.data.toList)
def keyL (x : ByteArray) : Lit := .string x.data.toList
/-- the set of these keys -/
def setL (K : List ByteArray) : DataW Unit := setOf (.agg []) (K.map keyL)
def isSet (w : World) (b n : Nat) (K : List ByteArray) : Prop := w.ownsMap Tryz.prog 9 unitElem b n (setL K)
theorem zeroU (w : World) : (zeroValue 80).run Tryz.prog w = .ok (.agg #[]) w := by kernel_rfl
theorem keyB (x : ByteArray) (hx : x.size ≤ 100000) : keyOf Tryz.prog 9 (.string x) = some (keyL x) := by
  have := WideMaps.keyOf_string_mk (P := Tryz.prog) Tryz.underlying9 (s := x) (by unfold maxLen; omega)
  exact this
theorem setL_snoc (K : List ByteArray) (x : ByteArray) : setL (K ++ [x]) = (setL K).put (keyL x) (.agg []) := by
  unfold setL
  rw [List.map_append]
  exact setOf_snoc _ _ _
theorem has_setL (K : List ByteArray) (x : ByteArray) : Maps.has (setL K) (keyL x) = K.any (fun y => y.data.toList == x.data.toList) := by
  unfold setL
  rw [has_setOf _ _ _ (by intro y hy; obtain ⟨z, _, rfl⟩ := List.mem_map.1 hy; trivial), List.any_map]
  congr 1
theorem isSet.call {w w' : World} {b n : Nat} {K : List ByteArray} (h : isSet w b n K) (hb : Below w.heap.size w w') : isSet w' b n K := by
  have hlt := World.ownsMap.lt h
  obtain ⟨es, clock, h1, F, hs, hD⟩ := h
  exact ⟨es, clock, (hb.block b hlt).trans h1, F, hs, hD⟩

/-- few texts, of few bytes -/
def FewS (A : List ByteArray) : Prop := A.length ≤ 1000000 ∧ ∀ x ∈ A, x.size ≤ 100000

end Go.Proofs.YtfohhhdebinikaaGreatDoor.Sp
