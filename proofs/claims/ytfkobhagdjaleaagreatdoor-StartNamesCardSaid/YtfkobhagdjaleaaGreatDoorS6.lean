/- What the law's small functions target and refused do. -/
import Derived.Test.YtfkobhagdjaleaaGreatDoorS4
namespace Go.Proofs.YtfkobhagdjaleaaGreatDoor.Sp
open Go.RowKit Sl

set_option maxRecDepth 100000 in
set_option maxHeartbeats 1000000 in
theorem refused_at (m s : ByteArray) (ht : tgt m.data.toList s.data.toList = ((0, [], []), 400)) (hs : s.size < 4294967281) (w : World) :
    Calls Tryz.prog 12 #[.string m, .string s] w fun e w' => e = .returned (.bool true) ∧ Below w.heap.size w w' := by
  have c := hide (fun w => target_at m s ⟨#[]⟩ ⟨#[]⟩ 0 400 ht hs w)
  clear ht
  go_enter Tryz.func12, Tryz.ntmps12
  go_wp2_with fail
  refine (unhide c _).mono ?_; rintro e w1 ⟨rfl, hb⟩
  go_wp2_with fail
  go_ret
  exact ⟨rfl, hb.alloc hb.size _⟩
set_option maxRecDepth 100000 in
set_option maxHeartbeats 1000000 in
theorem tget_at (m s h p : ByteArray) (f st : Int) (ht : tgt m.data.toList s.data.toList = ((f, h.data.toList, p.data.toList), st)) (hs : s.size < 4294967281) (w : World) :
    Calls Tryz.prog 11 #[.string m, .string s] w fun e w' => e = .returned (.agg #[.int .i64 f, .string h, .string p]) ∧ Below w.heap.size w w' := by
  have c := hide (fun w => target_at m s h p f st ht hs w)
  clear ht
  go_enter Tryz.func11, Tryz.ntmps11
  go_wp2_with fail
  refine (unhide c _).mono ?_; rintro e w1 ⟨rfl, hb⟩
  have H0 := Reg.Has.new w [.int .i64 0, .string ⟨#[]⟩, .string ⟨#[]⟩] 32
  have H2 := H0.call hb
  have hbel : Below w.heap.size w w1 := by
    have h1 := (Below.refl w.heap.size w).alloc (Nat.le_refl _) (.cells #[.int .i64 0, .string ⟨#[]⟩, .string ⟨#[]⟩] 32)
    exact h1.trans (hb.mono (by simp))
  have p2 := H2.cell 0 _ rfl; have q2 := H2.cell 1 _ rfl; have r2 := H2.cell 2 _ rfl; have u2 := H2.free 0 (by simp); have v2 := H2.free 1 (by simp); have x2 := H2.free 2 (by simp); have z2 := H2.lt
  have HF := hide ((((H2.put 0 (.int .i64 f)).put 1 (.string h)).put 2 (.string p)).alloc (.cells #[.int .i64 f, .string h, .string p] 32))
  have HB := hide ((below3 hbel (Nat.le_refl _) (.int .i64 f) (.string h) (.string p)).alloc (by have := hbel.size; simpa [World.setCell] using this) (.cells #[.int .i64 f, .string h, .string p] 32))
  clear H0 H2 hb hbel
  go_wp2_with fail
  refine bodyPost_ret (Mem.results_cell1 (ad := ⟨w.heap.size, 0, none⟩) Tryz.results11 rfl (run_loadVar_mid _ w.heap.size 0 _ [.int .i64 f, .string h, .string p] _ (has_range (unhide HF)) Tryz.underlying32 rfl tgt_info)) rfl ?_
  exact ⟨rfl, unhide HB⟩
end Go.Proofs.YtfkobhagdjaleaaGreatDoor.Sp
