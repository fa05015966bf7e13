/- The law's own small functions. -/
import Derived.Test.YtdaankgaigjahaaBudCalls
import Derived.Test.YtdaankgaigjahaaReg
namespace Go.Proofs.Ytdaankgaigjahaa.Bud
open Go.RowKit

theorem conf_any (w : World) :
    Calls Try.prog 22 #[] w fun e w' => e = .returned (.agg #[.int .i64 100, .int .i64 0, .int .i64 1000]) ∧ Below w.heap.size w w' := by
  go_enter Try.func22, Try.ntmps22
  go_wp2
  refine bodyPost_ret (v := .agg #[.int .i64 100, .int .i64 0, .int .i64 1000]) (by simp [results, Try.results22, go_sem, *]) rfl ?_
  exact ⟨rfl, (by repeat (first | (with_reducible exact Below.refl _ _) | (with_reducible assumption) | (with_reducible refine Below.drew ?_) | (with_reducible refine below_drewN ?_ _) | ((with_reducible refine bAlloc ?_ ?_ _); focus (first | omega | (simp; done) | (simp; omega))) | ((with_reducible refine bSet ?_ ?_ _); focus (first | omega | (simp; done) | (simp; omega))) | (refine Below.trans ?_ (Below.mono (by with_reducible assumption) (by first | omega | (simp; done) | (simp; omega))))))⟩

theorem rq_round (k : Nat) (a : Int) (hk : k < 10) (ha : 0 ≤ a ∧ a ≤ 1) : rqH 100 0 1000 (100 * k) a 1 = 100 * k + 100 ∧ atA 100 0 1000 (100 * k) a 1 = 1 := by
  have kc : okC 100 0 1000 := by decide
  have kb : okB 1000 (100 * k) a 1 := by unfold okB; omega
  unfold rqH atA
  rw [if_pos ⟨kc, kb⟩, if_pos ⟨kc, kb⟩]
  unfold asH asA
  constructor
  · split
    · omega
    · rw [if_pos rfl]; omega
  · split <;> omega
theorem rt_end : rtH 100 0 1000 1000 1 1 = 0 ∧ rtA 100 0 1000 1000 1 1 = 1 ∧ rtE 100 0 1000 1000 1 1 = 0 := by decide

theorem lives_any (w : World) : Calls Try.prog 8 #[] w fun e w' => e = .returned (.bool true) ∧ Below w.heap.size w w' := by
  have n1 : newH 100 0 1000 = 1000 := by decide
  have r1 : rtH 100 0 1000 1000 0 0 = 0 ∧ rtA 100 0 1000 1000 0 0 = 0 ∧ rtE 100 0 1000 1000 0 0 = 0 := by decide
  have r2 : rtH 100 0 1000 0 0 0 = 0 ∧ rtA 100 0 1000 0 0 0 = 0 ∧ rtE 100 0 1000 0 0 0 = 9 := by decide
  obtain ⟨r1a, r1b, r1c⟩ := r1
  obtain ⟨r2a, r2b, r2c⟩ := r2
  go_enter Try.func8, Try.ntmps8
  go_wp2_with fail
  refine (conf_any _).mono ?_; rintro e w0 ⟨rfl, hb0⟩
  go_wp2_with fail
  refine (new_any _ _ _ _).mono ?_; rintro e w1 ⟨rfl, hb1⟩
  rw [n1]
  go_wp2_with fail
  have H1 := Reg.Has.new w1 [.int .i64 1000, .int .i64 0] 30
  have hbel : Below w.heap.size w (w1.alloc (.cells #[.int .i64 1000, .int .i64 0] 30)) := by
    have := hb0.size
    have := hb1.size
    exact (by repeat (first | (with_reducible exact Below.refl _ _) | (with_reducible assumption) | (with_reducible refine Below.drew ?_) | (with_reducible refine below_drewN ?_ _) | ((with_reducible refine bAlloc ?_ ?_ _); focus (first | omega | (simp; done) | (simp; omega))) | ((with_reducible refine bSet ?_ ?_ _); focus (first | omega | (simp; done) | (simp; omega))) | (refine Below.trans ?_ (Below.mono (by with_reducible assumption) (by first | omega | (simp; done) | (simp; omega))))))
  have zB : w.heap.size ≤ w1.heap.size := by have := hb0.size; have := hb1.size; omega
  clear hb0 hb1
  refine Reg.region_more_bar 6 (by kernel_rfl) (by kernel_rfl) (by intro c a d v w h; cases d <;> exact h) ?_
  simp only [List.take_succ_cons, List.take_zero, List.drop_succ_cons, List.drop_zero]
  repeat (go_big_quiet_step ((first | (go_at_call 22; exact Reg.Calls.more (conf_any _)) | (go_at_call 11; have h := fun w => retry_any 100 0 1000 1000 0 0 w; simp only [r1a, r1b, r1c] at h; exact Reg.Calls.more (h _)))))
  refine wpQuiet_nil ?_
  intro w2 hb2; obtain ⟨hc2, hf2, hz2⟩ := bcell hb2; (try simp at hz2)
  have H2 := H1.call hb2
  have hbel2 := hbel.trans (hb2.mono (by simp; omega))
  clear hc2 hf2 hz2 hb2 H1 hbel
  generalize w1.heap.size = B at *
  have p2 := H2.cell 0 _ rfl; have q2 := H2.cell 1 _ rfl; have u2 := H2.free 0 (by simp); have v2 := H2.free 1 (by simp); have z2 := H2.lt
  go_wp2
  have H3 := (H2.put 0 (.int .i64 0)).put 1 (.int .i64 0)
  have hbel3 := (hbel2.setCell (p := ⟨B, 0, none⟩) zB (.int .i64 0)).setCell (p := ⟨B, 1, none⟩) zB (.int .i64 0)
  simp only [List.set_cons_zero, List.set_cons_succ] at H3
  clear H2 hbel2 p2 q2 u2 v2 z2
  generalize (w2.setCell ⟨B, 0, none⟩ (.int .i64 0)).setCell ⟨B, 1, none⟩ (.int .i64 0) = w3 at *
  have p3 := H3.cell 0 _ rfl; have q3 := H3.cell 1 _ rfl; have u3 := H3.free 0 (by simp); have v3 := H3.free 1 (by simp); have z3 := H3.lt
  refine Reg.region_more_bar 6 (by kernel_rfl) (by kernel_rfl) (by intro c a d v w h; cases d <;> exact h) ?_
  simp only [List.take_succ_cons, List.take_zero, List.drop_succ_cons, List.drop_zero]
  repeat (go_big_quiet_step ((first | (go_at_call 22; exact Reg.Calls.more (conf_any _)) | (go_at_call 11; have h := fun w => retry_any 100 0 1000 0 0 0 w; simp only [r2a, r2b, r2c] at h; exact Reg.Calls.more (h _)))))
  refine wpQuiet_nil ?_
  intro w4 hb4; obtain ⟨hc4, hf4, hz4⟩ := bcell hb4; (try simp at hz4)
  have H4 := H3.call hb4
  have hbel4 := hbel3.trans (hb4.mono (by omega))
  clear hc4 hf4 hz4 hb4 H3 hbel3 p3 q3 u3 v3
  have p4 := H4.cell 0 _ rfl; have q4 := H4.cell 1 _ rfl; have u4 := H4.free 0 (by simp); have v4 := H4.free 1 (by simp); have z4 := H4.lt
  go_wp2
  have H5 := (H4.put 0 (.int .i64 0)).put 1 (.int .i64 0)
  have hbel5 := (hbel4.setCell (p := ⟨B, 0, none⟩) zB (.int .i64 0)).setCell (p := ⟨B, 1, none⟩) zB (.int .i64 0)
  simp only [List.set_cons_zero, List.set_cons_succ] at H5
  clear H4 hbel4 p4 q4 u4 v4 z4
  generalize (w4.setCell ⟨B, 0, none⟩ (.int .i64 0)).setCell ⟨B, 1, none⟩ (.int .i64 0) = w5 at *
  go_loopw [4] (fun i wr => ∃ (k : Nat) (a : Int), k ≤ 10 ∧ i = .int .i64 k ∧ (0 ≤ a ∧ a ≤ 1) ∧ (k = 10 → a = 1) ∧ Reg.Has wr B [.int .i64 (100 * k), .int .i64 a] ∧ Below w.heap.size w wr) (fun i _ => 10 - (intOf i).toNat)
  case atStart => exact ⟨0, 0, by omega, rfl, by omega, by omega, H5, hbel5⟩
  case round =>
    obtain ⟨k, a, hk, rfl, ha, hka, H6, hbel6⟩ := hrel
    clear H5 hbel5 n1 r1a r1b r1c r2a r2b r2c
    have p6 := H6.cell 0 _ rfl; have q6 := H6.cell 1 _ rfl; have u6 := H6.free 0 (by simp); have v6 := H6.free 1 (by simp); have z6 := H6.lt
    by_cases hlt : k < 10
    · obtain ⟨q1, q2⟩ := rq_round k a hlt ha
      go_wp2
      refine Reg.region_more_bar 6 (by kernel_rfl) (by kernel_rfl) (by intro c a d v w h; cases d <;> exact h) ?_
      simp only [List.take_succ_cons, List.take_zero, List.drop_succ_cons, List.drop_zero]
      repeat (go_big_quiet_step ((first | (go_at_call 22; exact Reg.Calls.more (conf_any _)) | (go_at_call 12; have h := fun w => request_any 100 0 1000 (100 * k) a 1 w; simp only [q1, q2] at h; exact Reg.Calls.more (h _)))))
      refine wpQuiet_nil ?_
      intro w7 hb7; obtain ⟨hc7, hf7, hz7⟩ := bcell hb7; (try simp at hz7)
      have H7 := H6.call hb7
      have hbel7 := hbel6.trans (hb7.mono hbel6.size)
      clear hc7 hf7 hz7 hb7 H6 p6 q6 u6 v6 q1 q2
      have p7 := H7.cell 0 _ rfl; have q7 := H7.cell 1 _ rfl; have u7 := H7.free 0 (by simp); have v7 := H7.free 1 (by simp); have z7 := H7.lt
      go_wp2
      go_roundw
      case rel =>
        refine ⟨k + 1, 1, by omega, by go_num, by omega, by omega, ?_, ?_⟩
        · have H8 := (H7.put 0 (.int .i64 (100 * (k : Int) + 100))).put 1 (.int .i64 1)
          simp only [List.set_cons_zero, List.set_cons_succ] at H8
          have e : (100 * (k : Int) + 100) = 100 * ((k + 1 : Nat) : Int) := by omega
          rw [← e]; exact H8
        · exact (hbel7.setCell (p := ⟨B, 0, none⟩) zB _).setCell (p := ⟨B, 1, none⟩) zB _
      case measure => simp [intOf]; omega
    · have hk10 : k = 10 := by omega
      subst hk10
      have ha1 : a = 1 := hka rfl
      subst ha1
      obtain ⟨r1, r2, r3⟩ := rt_end
      go_wp2
      refine Reg.region_more_bar 6 (by kernel_rfl) (by kernel_rfl) (by intro c a d v w h; cases d <;> exact h) ?_
      simp only [List.take_succ_cons, List.take_zero, List.drop_succ_cons, List.drop_zero]
      repeat (go_big_quiet_step ((first | (go_at_call 22; exact Reg.Calls.more (conf_any _)) | (go_at_call 11; have h := fun w => retry_any 100 0 1000 1000 1 1 w; simp only [r1, r2, r3] at h; exact Reg.Calls.more (h _)))))
      refine wpQuiet_nil ?_
      intro w7 hb7; obtain ⟨hc7, hf7, hz7⟩ := bcell hb7; (try simp at hz7)
      have H7 := H6.call hb7
      have hbel7 := hbel6.trans (hb7.mono hbel6.size)
      clear hc7 hf7 hz7 hb7 H6 p6 q6 u6 v6 r1 r2 r3
      have p7 := H7.cell 0 _ rfl; have q7 := H7.cell 1 _ rfl; have u7 := H7.free 0 (by simp); have v7 := H7.free 1 (by simp); have z7 := H7.lt
      go_wp2
      go_ret
      exact ⟨by simp, (hbel7.setCell (p := ⟨B, 0, none⟩) zB _).setCell (p := ⟨B, 1, none⟩) zB _⟩
end Go.Proofs.Ytdaankgaigjahaa.Bud
