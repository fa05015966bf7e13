/- Plain: what HopStays says. -/
import Derived.Test.YtmmldoleillelaaDoorC16
namespace Go.Proofs.YtmmldoleillelaaDoor.Sp
open Go.RowKit Sl

theorem goneS_same {K : List ByteArray} {x y : ByteArray} (h : lower x.data.toList = lower y.data.toList) : goneS K x = goneS K y := by
  unfold goneS hopS; rw [h]
theorem isN_iff {name : ByteArray} {f : Fld} : isN name f = true ↔ lower f.1.data.toList = lower name.data.toList := by
  unfold isN same; exact beq_iff_eq
theorem conn_hop : hopS connB = true := by decide +kernel
theorem all_strip (L : List Fld) (name : ByteArray) : allB (stripF L) name = if goneS ((listB L connB).map low) name = true then [] else allB L name := by
  unfold allB stripF
  rw [List.filter_filter]
  by_cases hg : goneS ((listB L connB).map low) name = true
  · rw [if_pos hg]
    have : (L.filter fun f => isN name f && !goneS ((listB L connB).map low) f.1) = [] := by
      rw [List.filter_eq_nil_iff]
      intro f _ h
      rw [Bool.and_eq_true] at h
      have h1 := goneS_same (K := (listB L connB).map low) (isN_iff.1 h.1)
      rw [hg] at h1
      rw [h1] at h
      exact absurd h.2 (by decide)
    rw [this]; rfl
  · rw [if_neg hg]
    congr 1
    refine List.filter_congr fun f _ => ?_
    cases hn : isN name f
    · rfl
    · have h1 := goneS_same (K := (listB L connB).map low) (isN_iff.1 hn)
      have h2 : goneS ((listB L connB).map low) name = false := by simpa using hg
      rw [h1, h2]; rfl
theorem list_strip (L : List Fld) : listB (stripF L) connB = [] := by
  unfold listB
  rw [all_strip, if_pos (by unfold goneS; rw [conn_hop, Bool.or_true])]; rfl
theorem strip_twice (L : List Fld) : stripF (stripF L) = stripF L := by
  have h : ∀ f ∈ stripF L, hopS f.1 = false := by
    intro f hf
    have := (List.mem_filter.1 hf).2
    unfold goneS at this
    rw [Bool.not_eq_true', Bool.or_eq_false_iff] at this
    exact this.2
  have h0 : stripF (stripF L) = (stripF L).filter fun f => !goneS ((listB (stripF L) connB).map low) f.1 := rfl
  rw [h0, list_strip, List.filter_eq_self]
  intro f hf
  unfold goneS
  rw [h f hf]; rfl
theorem strip_len (L : List Fld) : (stripF L).length ≤ L.length := List.length_filter_le _ _
theorem strip_few {L : List Fld} (h : Few L) : Few (stripF L) := ⟨Nat.le_trans (strip_len L) h.1, fun f hf => h.2 f (List.mem_filter.1 hf).1⟩
/-- what the law's own loop finds -/
theorem gone_loop (M : List ByteArray) (name : ByteArray) : goneS (M.map low) name = (hopS name || M.any fun k => same k.data.toList name.data.toList) := by
  unfold goneS
  rw [Bool.or_comm, List.any_map]
  rfl
end Go.Proofs.YtmmldoleillelaaDoor.Sp
