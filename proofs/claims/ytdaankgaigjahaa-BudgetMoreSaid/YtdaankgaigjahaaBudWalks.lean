/- The walks of package budget. -/
import Derived.Test.YtdaankgaigjahaaRows
import Derived.Test.YtdaankgaigjahaaBudPlain
import Derived.WalkKit
import Derived.WalkSpells
import Derived.WalkLawsBesides
import Derived.BigQuiet
import Derived.BigGuardPart
import Derived.Deep.QuietTactic
import Derived.Outline
import Derived.RowKit3
import Derived.Lib.Hide
import Derived.Handy
namespace Go.Proofs.Ytdaankgaigjahaa.Bud
open Go.RowKit

theorem bAlloc {B : Nat} {a w : World} (hB : B ≤ w.heap.size) (h : Below B a w) (o : Obj) : Below B a (w.alloc o) := h.alloc hB o
theorem bSet {B : Nat} {a w : World} {p : Addr} (hp : B ≤ p.block) (h : Below B a w) (u : Value) : Below B a (w.setCell p u) := h.setCell hp u
theorem ret_int {k : IntKind} {a b : Int} (h : a = b) : Ending.returned (.int k a) = .returned (.int k b) := by rw [h]

theorem within_any (n m : Int) (w : World) :
    Calls Try.prog 23 #[.int .i64 n, .int .i64 m] w fun e w' => e = .returned (.bool (decide (0 ≤ n ∧ n ≤ m))) ∧ w = w' := by
  go_enter Try.func23, Try.ntmps23
  go_wp2
  all_goals go_ret
  all_goals exact ⟨by simp; omega, rfl⟩

theorem chk_yes {r s m : Int} (h : okC r s m) : chk r s m = 0 := if_pos h
theorem chk_no {r s m : Int} (h : ¬ okC r s m) : chk r s m = 260 := if_neg h

theorem check_any (r s m : Int) (w : World) :
    Calls Try.prog 9 #[.agg #[.int .i64 r, .int .i64 s, .int .i64 m]] w fun e w' => e = .returned (.int .i64 (chk r s m)) ∧ Below w.heap.size w w' := by
  go_enter Try.func9, Try.ntmps9
  go_wp2
  all_goals go_ret
  all_goals refine ⟨ret_int ?_, (Below.refl _ _).alloc (Nat.le_refl _) _⟩
  all_goals first | (rw [chk_yes]; unfold okC; simp_all; done) | (rw [chk_no]; unfold okC; simp_all; done) | (rw [chk_no]; unfold okC; simp_all; omega)

theorem bcell {W w1 : World} (hb : Below W.heap.size W w1) : (∀ b o, b < W.heap.size → w1.cell? ⟨b, o, none⟩ = W.cell? ⟨b, o, none⟩) ∧ (∀ b o, b < W.heap.size → w1.frozen? ⟨b, o, none⟩ = W.frozen? ⟨b, o, none⟩) ∧ W.heap.size ≤ w1.heap.size :=
  ⟨fun b o h => hb.cell (p := ⟨b, o, none⟩) h, fun b o h => hb.frozen (p := ⟨b, o, none⟩) h, hb.size⟩

theorem may_bad {r s m h a n : Int} (k : ¬ okC r s m) : mayE r s m h a n = 260 := if_neg k
theorem may_arg {r s m h a n : Int} (k : okC r s m) (j : ¬ okB m h a n) : mayE r s m h a n = 2 := by unfold mayE; rw [if_pos k, if_neg j]
theorem may_ok {r s m h a n : Int} (k : okC r s m) (j : okB m h a n) : mayE r s m h a n = 0 := by unfold mayE; rw [if_pos k, if_pos j]

theorem may_any (r s m h a n : Int) (w : World) :
    Calls Try.prog 24 #[.agg #[.int .i64 r, .int .i64 s, .int .i64 m], .agg #[.int .i64 h, .int .i64 a], .int .i64 n] w fun e w' => e = .returned (.int .i64 (mayE r s m h a n)) ∧ Below w.heap.size w w' := by
  by_cases hk : okC r s m
  all_goals first | (have hck := chk_yes hk) | (have hck := chk_no hk)
  all_goals
    go_enter Try.func24, Try.ntmps24
    go_wp2_with (first | (go_at_call 9; refine (check_any _ _ _ _).mono ?_; rintro e w' ⟨rfl, hb⟩; obtain ⟨hc, hf, hz⟩ := bcell hb; (try simp at hz); (try (have hz0 : w.heap.size < w'.heap.size := by omega)); (try (have hz1 : w.heap.size + 1 < w'.heap.size := by omega)); (try (have hz2 : w.heap.size + 1 + 1 < w'.heap.size := by omega)); (try (have hz3 : w.heap.size + 1 + 1 + 1 < w'.heap.size := by omega))) | (go_at_call 23; refine (within_any _ _ _).mono ?_; rintro e w' ⟨rfl, rfl⟩))
  all_goals go_ret
  all_goals refine ⟨ret_int ?_, (by repeat (first | (with_reducible exact Below.refl _ _) | (with_reducible assumption) | (with_reducible refine Below.drew ?_) | (with_reducible refine below_drewN ?_ _) | ((with_reducible refine bAlloc ?_ ?_ _); focus (first | omega | (simp; done) | (simp; omega))) | ((with_reducible refine bSet ?_ ?_ _); focus (first | omega | (simp; done) | (simp; omega))) | (refine Below.trans ?_ (Below.mono (by with_reducible assumption) (by first | omega | (simp; done) | (simp; omega))))))⟩
  all_goals first | (rw [may_bad hk]; done) | (rw [may_ok hk]; unfold okB; simp_all; done) | (rw [may_arg hk]; unfold okB; simp_all; done) | (rw [may_arg hk]; unfold okB; simp_all; omega) | go_ways

theorem as_old {s m h a n : Int} (r : Int) (w : World) (hn : n ≤ a) :
    Calls Try.prog 25 #[.agg #[.int .i64 r, .int .i64 s, .int .i64 m], .agg #[.int .i64 h, .int .i64 a], .int .i64 n] w fun e w' => e = .returned (.agg #[.int .i64 h, .int .i64 a]) ∧ Below w.heap.size w w' := by
  go_enter Try.func25, Try.ntmps25
  go_wp2
  refine bodyPost_ret (v := .agg #[.int .i64 h, .int .i64 a]) (by simp [results, Try.results25, go_sem]) rfl ⟨rfl, (by repeat (first | (with_reducible exact Below.refl _ _) | (with_reducible assumption) | (with_reducible refine Below.drew ?_) | (with_reducible refine below_drewN ?_ _) | ((with_reducible refine bAlloc ?_ ?_ _); focus (first | omega | (simp; done) | (simp; omega))) | ((with_reducible refine bSet ?_ ?_ _); focus (first | omega | (simp; done) | (simp; omega))) | (refine Below.trans ?_ (Below.mono (by with_reducible assumption) (by first | omega | (simp; done) | (simp; omega))))))⟩

theorem as_nil {m h a n : Int} (r : Int) (w : World) (hn : a < n) (h0 : 0 ≤ h) (hm : h ≤ m) (hM : m ≤ 1048576) :
    Calls Try.prog 25 #[.agg #[.int .i64 r, .int .i64 0, .int .i64 m], .agg #[.int .i64 h, .int .i64 a], .int .i64 n] w fun e w' => e = .returned (.agg #[.int .i64 h, .int .i64 n]) ∧ Below w.heap.size w w' := by
  go_enter Try.func25, Try.ntmps25
  go_wp2
  refine bodyPost_ret (v := .agg #[.int .i64 h, .int .i64 n]) (by simp [results, Try.results25, go_sem]) rfl ⟨rfl, (by repeat (first | (with_reducible exact Below.refl _ _) | (with_reducible assumption) | (with_reducible refine Below.drew ?_) | (with_reducible refine below_drewN ?_ _) | ((with_reducible refine bAlloc ?_ ?_ _); focus (first | omega | (simp; done) | (simp; omega))) | ((with_reducible refine bSet ?_ ?_ _); focus (first | omega | (simp; done) | (simp; omega))) | (refine Below.trans ?_ (Below.mono (by with_reducible assumption) (by first | omega | (simp; done) | (simp; omega))))))⟩

theorem as_full {s m h a n : Int} (r : Int) (w : World) (hn : a < n) (h0 : 0 ≤ h) (hm : h ≤ m) (hM : m ≤ 1048576) (hs : 1 ≤ s) (ha : 0 ≤ a) (hN : n ≤ 253402300799) (hd : (m - h) / s < n - a) :
    Calls Try.prog 25 #[.agg #[.int .i64 r, .int .i64 s, .int .i64 m], .agg #[.int .i64 h, .int .i64 a], .int .i64 n] w fun e w' => e = .returned (.agg #[.int .i64 m, .int .i64 n]) ∧ Below w.heap.size w w' := by
  go_enter Try.func25, Try.ntmps25
  go_wp2
  go_quiet (fail)
  go_wp2
  refine bodyPost_ret (v := .agg #[.int .i64 m, .int .i64 n]) (by simp [results, Try.results25, go_sem]; omega) rfl ⟨rfl, (by repeat (first | (with_reducible exact Below.refl _ _) | (with_reducible assumption) | (with_reducible refine Below.drew ?_) | (with_reducible refine below_drewN ?_ _) | ((with_reducible refine bAlloc ?_ ?_ _); focus (first | omega | (simp; done) | (simp; omega))) | ((with_reducible refine bSet ?_ ?_ _); focus (first | omega | (simp; done) | (simp; omega))) | (refine Below.trans ?_ (Below.mono (by with_reducible assumption) (by first | omega | (simp; done) | (simp; omega))))))⟩

theorem as_part {s m h a n : Int} (r : Int) (w : World) (hn : a < n) (h0 : 0 ≤ h) (hm : h ≤ m) (hM : m ≤ 1048576) (hs : 1 ≤ s) (ha : 0 ≤ a) (hN : n ≤ 253402300799) (hd : n - a ≤ (m - h) / s) (hp0 : 0 ≤ (n - a) * s) (hp1 : (n - a) * s ≤ m - h) :
    Calls Try.prog 25 #[.agg #[.int .i64 r, .int .i64 s, .int .i64 m], .agg #[.int .i64 h, .int .i64 a], .int .i64 n] w fun e w' => e = .returned (.agg #[.int .i64 (h + (n - a) * s), .int .i64 n]) ∧ Below w.heap.size w w' := by
  go_enter Try.func25, Try.ntmps25
  go_wp2
  go_quiet (fail)
  go_wp2
  refine bodyPost_ret (v := .agg #[.int .i64 (h + (n - a) * s), .int .i64 n]) (by simp [results, Try.results25, go_sem]) rfl ⟨rfl, (by repeat (first | (with_reducible exact Below.refl _ _) | (with_reducible assumption) | (with_reducible refine Below.drew ?_) | (with_reducible refine below_drewN ?_ _) | ((with_reducible refine bAlloc ?_ ?_ _); focus (first | omega | (simp; done) | (simp; omega))) | ((with_reducible refine bSet ?_ ?_ _); focus (first | omega | (simp; done) | (simp; omega))) | (refine Below.trans ?_ (Below.mono (by with_reducible assumption) (by first | omega | (simp; done) | (simp; omega))))))⟩

theorem as_any {r s m h a n : Int} (w : World) (hc : okC r s m) (hb : okB m h a n) :
    Calls Try.prog 25 #[.agg #[.int .i64 r, .int .i64 s, .int .i64 m], .agg #[.int .i64 h, .int .i64 a], .int .i64 n] w fun e w' => e = .returned (.agg #[.int .i64 (asH s m h a n), .int .i64 (asA a n)]) ∧ Below w.heap.size w w' := by
  obtain ⟨c1, c2, c3, c4, c5, c6⟩ := hc
  obtain ⟨b1, b2, b3, b4, b5, b6⟩ := hb
  unfold asH asA
  by_cases hn : n ≤ a
  · rw [if_pos hn, if_pos hn]; exact as_old r w hn
  rw [if_neg hn, if_neg hn]
  by_cases hs : s = 0
  · subst hs; rw [if_pos rfl]; exact as_nil r w (by omega) b3 b4 c6
  rw [if_neg hs]
  by_cases hd : n - a ≤ (m - h) / s
  · rw [if_pos hd]
    have hp0 : 0 ≤ (n - a) * s := Int.mul_nonneg (by omega) c3
    have hp1 : (n - a) * s ≤ m - h := Int.le_trans (Int.mul_le_mul_of_nonneg_right hd c3) (Int.ediv_mul_le _ hs)
    exact as_part r w (by omega) b3 b4 c6 (by omega) b5 b2 hd hp0 hp1
  · rw [if_neg hd]; exact as_full r w (by omega) b3 b4 c6 (by omega) b5 b2 (by omega)

theorem at_any (r s m h a n : Int) (w : World) :
    Calls Try.prog 13 #[.agg #[.int .i64 r, .int .i64 s, .int .i64 m], .agg #[.int .i64 h, .int .i64 a], .int .i64 n] w fun e w' => e = .returned (.agg #[.int .i64 (atH r s m h a n), .int .i64 (atA r s m h a n)]) ∧ Below w.heap.size w w' := by
  unfold atH atA
  by_cases hk : okC r s m ∧ okB m h a n
  · have hM := may_ok hk.1 hk.2
    rw [if_pos hk, if_pos hk]
    go_enter Try.func13, Try.ntmps13
    go_wp2_with (first | (go_at_call 24; refine (may_any _ _ _ _ _ _ _).mono ?_; rintro e w' ⟨rfl, hb⟩; obtain ⟨hc, hf, hz⟩ := bcell hb; (try simp at hz); (try (have hz0 : w.heap.size < w'.heap.size := by omega)); (try (have hz1 : w.heap.size + 1 < w'.heap.size := by omega)); (try (have hz2 : w.heap.size + 1 + 1 < w'.heap.size := by omega)); (try (have hz3 : w.heap.size + 1 + 1 + 1 < w'.heap.size := by omega))) | (go_at_call 25; refine (as_any _ hk.1 hk.2).mono ?_; rintro e w' ⟨rfl, hb⟩; obtain ⟨hc, hf, hz⟩ := bcell hb; (try simp at hz); (try (have hz0 : w.heap.size < w'.heap.size := by omega)); (try (have hz1 : w.heap.size + 1 < w'.heap.size := by omega)); (try (have hz2 : w.heap.size + 1 + 1 < w'.heap.size := by omega)); (try (have hz3 : w.heap.size + 1 + 1 + 1 < w'.heap.size := by omega))))
    refine bodyPost_ret (v := .agg #[.int .i64 (asH s m h a n), .int .i64 (asA a n)]) (by simp [results, Try.results13, go_sem, *]) rfl ⟨rfl, (by repeat (first | (with_reducible exact Below.refl _ _) | (with_reducible assumption) | (with_reducible refine Below.drew ?_) | (with_reducible refine below_drewN ?_ _) | ((with_reducible refine bAlloc ?_ ?_ _); focus (first | omega | (simp; done) | (simp; omega))) | ((with_reducible refine bSet ?_ ?_ _); focus (first | omega | (simp; done) | (simp; omega))) | (refine Below.trans ?_ (Below.mono (by with_reducible assumption) (by first | omega | (simp; done) | (simp; omega))))))⟩
  · have hM : mayE r s m h a n ≠ 0 := by
      by_cases hc : okC r s m
      · rw [may_arg hc (fun k => hk ⟨hc, k⟩)]; decide
      · rw [may_bad hc]; decide
    have hM' : (mayE r s m h a n != 0) = true := by rw [bne_iff_ne]; exact hM
    clear hM
    rw [if_neg hk, if_neg hk]
    go_enter Try.func13, Try.ntmps13
    go_wp2_with (first | (go_at_call 24; refine (may_any _ _ _ _ _ _ _).mono ?_; rintro e w' ⟨rfl, hb⟩; obtain ⟨hc, hf, hz⟩ := bcell hb; (try simp at hz); (try (have hz0 : w.heap.size < w'.heap.size := by omega)); (try (have hz1 : w.heap.size + 1 < w'.heap.size := by omega)); (try (have hz2 : w.heap.size + 1 + 1 < w'.heap.size := by omega)); (try (have hz3 : w.heap.size + 1 + 1 + 1 < w'.heap.size := by omega))))
    refine bodyPost_ret (v := .agg #[.int .i64 h, .int .i64 a]) (by simp [results, Try.results13, go_sem, *]) rfl ⟨rfl, (by repeat (first | (with_reducible exact Below.refl _ _) | (with_reducible assumption) | (with_reducible refine Below.drew ?_) | (with_reducible refine below_drewN ?_ _) | ((with_reducible refine bAlloc ?_ ?_ _); focus (first | omega | (simp; done) | (simp; omega))) | ((with_reducible refine bSet ?_ ?_ _); focus (first | omega | (simp; done) | (simp; omega))) | (refine Below.trans ?_ (Below.mono (by with_reducible assumption) (by first | omega | (simp; done) | (simp; omega))))))⟩
end Go.Proofs.Ytdaankgaigjahaa.Bud
