/- strings.NewReplacer at two single bytes that become two bytes each: made, built. -/
import Derived.Test.YtfkobhagdjaleaaGreatDoorO1
import Derived.Test.YtfkobhagdjaleaaGreatDoorS0
import Derived.Laws.Tables
import Derived.Deep.AppendLies
namespace Go.Proofs.YtfkobhagdjaleaaGreatDoor.Sp
open Go.RowKit Sl

def repA : List ByteArray := [⟨#[34]⟩, ⟨#[92, 34]⟩, ⟨#[92]⟩, ⟨#[92, 92]⟩]
def nilS : Value := .slice none 0 0
/-- a replacer that is not yet built, in block b -/
structure RepNew (w : World) (b : Nat) (v : Value) : Prop where
  H : Reg.Has w b [.int .u32 0, .int .i32 0, .int .u32 0, .nilIface, v]
  R : Rd w v 4 1 (strV repA)

theorem newRep_any (v : Value) (w : World) (hv : Rd w v 4 1 (strV repA)) :
    Calls Tryz.prog 78 #[v] w fun e w' => ∃ b u, e = .returned (.pointer (some ⟨b, 0, none⟩)) ∧ w.heap.size ≤ b ∧ RepNew w' b u ∧ Below w.heap.size w w' := by
  obtain ⟨ao, cap, rfl⟩ := hv.form
  have HV := hide hv
  clear hv
  go_enter Tryz.func78, Tryz.ntmps78
  go_wp2_with (at_builtin; refine wpList_pushAllS (w0 := w) rfl _ _ rfl w.heap.size _ 0 [] rfl (Own.start w w.heap.size (Nat.le_refl _) _ _) _ repA (unhide HV) rfl (by decide) ?_; intro v1 w1 h1; obtain ⟨ao1, cp1, rfl⟩ := (Rd.own h1.own).form; have H1 := hide h1; clear h1)
  go_ret
  refine ⟨w1.heap.size, _, rfl, (unhide H1).le, ⟨Reg.Has.new w1 [.int .u32 0, .int .i32 0, .int .u32 0, .nilIface, _] 113, ?_⟩, (unhide H1).bel.alloc (unhide H1).le _⟩
  exact (Rd.own (unhide H1).own).alloc _
end Go.Proofs.YtfkobhagdjaleaaGreatDoor.Sp
