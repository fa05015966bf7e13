/- What the law's small function lives does; Request and Target at texts that are known. -/
import Derived.Test.YtfkobhagdjaleaaGreatDoorA8
import Derived.Shelf.Vars
namespace Go.Proofs.YtfkobhagdjaleaaGreatDoor.Sp
open Go.RowKit

theorem maxv_of {w : World} (h : w.ShapedOpen Tryz.prog) : MaxV w :=
  cell_of_shapedOpen_int (g := 0) (t := 3) (zero := #[.int .i64 0]) h (of_decide_eq_true (by kernel_rfl)) (by kernel_rfl) rfl (by kernel_rfl) (by kernel_rfl) Tryz.underlying3

theorem request_at (s m t : ByteArray) (a b : Int) (h : req s.data.toList = (m.data.toList, t.data.toList, a, b)) (hs : s.size < 4294967281) (w : World) (hM : MaxV w) :
    Calls Tryz.prog 8 #[.string s] w fun e w' => e = .returned (.tuple #[.string m, .string t, .int .i64 a, .int .i64 b]) ∧ Below w.heap.size w w' := by
  refine (request_any s hs w hM).mono ?_
  rintro e w' ⟨rfl, hb⟩
  rw [h]
  exact ⟨rfl, hb⟩
theorem target_at (m s h p : ByteArray) (f st : Int) (ht : tgt m.data.toList s.data.toList = ((f, h.data.toList, p.data.toList), st)) (hs : s.size < 4294967281) (w : World) :
    Calls Tryz.prog 16 #[.string m, .string s] w fun e w' => e = .returned (.tuple #[.agg #[.int .i64 f, .string h, .string p], .int .i64 st]) ∧ Below w.heap.size w w' := by
  refine (target_any m s hs w).mono ?_
  rintro e w' ⟨rfl, hb⟩
  rw [ht]
  exact ⟨rfl, hb⟩

theorem req1 : req [71, 69, 84, 32, 47, 32, 72, 84, 84, 80, 47, 49, 46, 49] = ([71, 69, 84], [47], 1, 0) := by decide +kernel
theorem req2 : req [71, 69, 84, 32, 47, 32, 72, 84, 84, 80, 47, 50, 46, 48] = ([], [], 0, 505) := by decide +kernel
theorem req3 : req [71, 69, 84, 32, 32, 47, 32, 72, 84, 84, 80, 47, 49, 46, 49] = ([], [], 0, 400) := by decide +kernel
theorem tgt1 : tgt [71, 69, 84] [104, 116, 116, 112, 58, 47, 47, 65, 63, 120] = ((2, [97], [47, 63, 120]), 0) := by decide +kernel

set_option maxRecDepth 100000 in
set_option maxHeartbeats 1000000 in
theorem lives_any (w : World) (hM : MaxV w) : Calls Tryz.prog 6 #[] w fun e w' => e = .returned (.bool true) ∧ Below w.heap.size w w' := by
  have c1 := hide (fun w hM => request_at ⟨#[71, 69, 84, 32, 47, 32, 72, 84, 84, 80, 47, 49, 46, 49]⟩ ⟨#[71, 69, 84]⟩ ⟨#[47]⟩ 1 0 req1 (by decide) w hM)
  have c2 := hide (fun w hM => request_at ⟨#[71, 69, 84, 32, 47, 32, 72, 84, 84, 80, 47, 50, 46, 48]⟩ ⟨#[]⟩ ⟨#[]⟩ 0 505 req2 (by decide) w hM)
  have c3 := hide (fun w hM => request_at ⟨#[71, 69, 84, 32, 32, 47, 32, 72, 84, 84, 80, 47, 49, 46, 49]⟩ ⟨#[]⟩ ⟨#[]⟩ 0 400 req3 (by decide) w hM)
  have c4 := hide (fun w => target_at ⟨#[71, 69, 84]⟩ ⟨#[104, 116, 116, 112, 58, 47, 47, 65, 63, 120]⟩ ⟨#[97]⟩ ⟨#[47, 63, 120]⟩ 2 0 tgt1 (by decide) w)
  have HM := hide hM
  clear hM
  go_enter Tryz.func6, Tryz.ntmps6
  go_wp2_with fail
  refine (unhide c1 _ (unhide HM)).mono ?_; rintro e w1 ⟨rfl, hb1⟩
  replace HM := hide ((unhide HM).below hb1)
  go_wp2_with fail
  refine (unhide c2 _ (unhide HM)).mono ?_; rintro e w2 ⟨rfl, hb2⟩
  replace HM := hide ((unhide HM).below hb2)
  have hb := hb1.trans (hb2.mono hb1.size)
  clear hb1 hb2
  go_wp2_with fail
  refine (unhide c3 _ (unhide HM)).mono ?_; rintro e w3 ⟨rfl, hb3⟩
  replace hb := hb.trans (hb3.mono hb.size)
  clear hb3 HM
  go_wp2_with fail
  refine (unhide c4 _).mono ?_; rintro e w4 ⟨rfl, hb4⟩
  replace hb := hb.trans (hb4.mono hb.size)
  clear hb4 c1 c2 c3 c4
  go_wp2_with fail
  go_ret
  exact ⟨rfl, hb.alloc hb.size _⟩
end Go.Proofs.YtfkobhagdjaleaaGreatDoor.Sp
