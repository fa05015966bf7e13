/- A slice of acts, as the walks read it; Pick. -/
import Derived.Test.YtdaankgaigjahaaBudLives
import Derived.Deep.SlicePairs
namespace Go.Proofs.Ytdaankgaigjahaa.Bud
open Go.RowKit

/-- The slice value v reads in w as the list L (a retry or a request, and how much later). -/
def Acts (w : World) (v : Value) (L : List (Bool × Int)) : Prop :=
  ∃ (ao : Option Addr) (cap : Nat), v = .slice ao L.length cap ∧ (L ≠ [] → ∃ b off, ao = some ⟨b, off, none⟩ ∧ b < w.heap.size ∧
    ∀ i x, L[i]? = some x → w.cell? ⟨b, off + i * 2, none⟩ = some (.bool x.1) ∧ w.cell? ⟨b, off + i * 2 + 1, none⟩ = some (.int .i64 x.2))

/-- Pick at 30. -/
def pick (n m : Int) : Int := if m < 1 then 0 else if n.tmod m < 0 then n.tmod m + m else n.tmod m
theorem pick_bd (n m : Int) (hm : 1 ≤ m) : 0 ≤ pick n m ∧ pick n m < m := by
  unfold pick
  rw [if_neg (by omega)]
  have h1 := Int.tmod_lt_of_pos n (show (0 : Int) < m by omega)
  have h2 : -m < n.tmod m := by
    have := Int.tmod_lt_of_pos (-n) (show (0 : Int) < m by omega)
    rw [Int.neg_tmod] at this
    omega
  split <;> omega

theorem pick_any (n m : Int) (w : World) (hm : m ≤ 1048577) :
    Calls Try.prog 10 #[.int .i64 n, .int .i64 m] w fun e w' => e = .returned (.int .i64 (pick n m)) ∧ w = w' := by
  by_cases h : m < 1
  · have e : pick n m = 0 := if_pos h
    rw [e]
    go_enter Try.func10, Try.ntmps10
    go_wp2
    go_ret
    exact ⟨rfl, rfl⟩
  · have h1 := Int.tmod_lt_of_pos n (show (0 : Int) < m by omega)
    have h2 : -m < n.tmod m := by
      have := Int.tmod_lt_of_pos (-n) (show (0 : Int) < m by omega)
      rw [Int.neg_tmod] at this
      omega
    have hm1 : 1 ≤ m := by omega
    by_cases hneg : n.tmod m < 0
    · have e : pick n m = n.tmod m + m := by unfold pick; rw [if_neg h, if_pos hneg]
      rw [e]
      have hn : ¬ 0 ≤ n := fun h0 => by have := Int.tmod_nonneg m h0; omega
      go_enter Try.func10, Try.ntmps10
      go_wp2
      go_ret
      exact ⟨rfl, rfl⟩
    · have e : pick n m = n.tmod m := by unfold pick; rw [if_neg h, if_neg hneg]
      rw [e]
      by_cases hn : 0 ≤ n
      · rw [Int.tmod_eq_emod_of_nonneg hn] at hneg h1 h2 ⊢
        go_enter Try.func10, Try.ntmps10
        go_wp2
        go_ret
        exact ⟨rfl, rfl⟩
      · go_enter Try.func10, Try.ntmps10
        go_wp2
        go_ret
        exact ⟨rfl, rfl⟩
end Go.Proofs.Ytdaankgaigjahaa.Bud
