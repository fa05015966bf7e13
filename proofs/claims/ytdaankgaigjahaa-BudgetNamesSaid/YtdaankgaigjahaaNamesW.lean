/- The walk of the law BudgetNames: the chapter's examples. -/
import Derived.Test.YtdaankgaigjahaaBudLives
namespace Go.Proofs.Ytdaankgaigjahaa.Bud
open Go.RowKit

set_option maxRecDepth 100000 in
set_option maxHeartbeats 4000000 in
theorem names_law (w : World) : Calls Try.prog 5 #[] w fun e w' => e = .returned (.bool true) ∧ Below w.heap.size w w' := by
  have n1 : newH 100 300 2000 = 2000 := by decide
  obtain ⟨a1, a2, a3⟩ : rtH 100 300 2000 2000 0 5 = 1000 ∧ rtA 100 300 2000 2000 0 5 = 5 ∧ rtE 100 300 2000 2000 0 5 = 0 := by decide
  obtain ⟨d1, d2, d3⟩ : rqH 100 300 2000 1000 5 6 = 1400 ∧ atA 100 300 2000 1000 5 6 = 6 ∧ mayE 100 300 2000 1000 5 6 = 0 := by decide
  obtain ⟨g1, g2, g3⟩ : rqH 100 300 2000 1000 5 (-1) = 1000 ∧ atA 100 300 2000 1000 5 (-1) = 5 ∧ mayE 100 300 2000 1000 5 (-1) = 2 := by decide
  obtain ⟨h1, h2, h3⟩ : rqH 100 300 2000 2001 0 5 = 2001 ∧ atA 100 300 2000 2001 0 5 = 0 ∧ mayE 100 300 2000 2001 0 5 = 2 := by decide
  obtain ⟨i1, i2, i3⟩ : rtH 0 0 (-1) 2000 0 5 = 2000 ∧ rtA 0 0 (-1) 2000 0 5 = 0 ∧ rtE 0 0 (-1) 2000 0 5 = 260 := by decide
  obtain ⟨j1, j2, j3⟩ : rtH 100 300 2000 1000 5 3 = 0 ∧ rtA 100 300 2000 1000 5 3 = 5 ∧ rtE 100 300 2000 1000 5 3 = 0 := by decide
  obtain ⟨k1, k2⟩ : atH 100 300 2000 1000 5 7 = 1600 ∧ atA 100 300 2000 1000 5 7 = 7 := by decide
  obtain ⟨k3, k4⟩ : atH 100 300 2000 1000 5 253402300799 = 2000 ∧ atA 100 300 2000 1000 5 253402300799 = 253402300799 := by decide
  have m1 : (rtE 100 300 2000 1000 5 5 == 0) = true := by decide
  have m2 : (rtE 100 300 2000 0 5 5 == 0) = false := by decide
  have m3 : chk 100 300 2000 = 0 := by decide
  have m4 : newH 0 0 (-1) = 0 := by decide
  go_enter Try.func5, Try.ntmps5
  go_wp2_with fail
  refine (lives_any _).mono ?_; rintro e w1 ⟨rfl, hb1⟩
  have bel : Below w.heap.size w w1 := (by repeat (first | (with_reducible exact Below.refl _ _) | (with_reducible assumption) | (with_reducible refine Below.drew ?_) | (with_reducible refine below_drewN ?_ _) | ((with_reducible refine bAlloc ?_ ?_ _); focus (first | omega | (simp; done) | (simp; omega))) | ((with_reducible refine bSet ?_ ?_ _); focus (first | omega | (simp; done) | (simp; omega))) | (refine Below.trans ?_ (Below.mono (by with_reducible assumption) (by first | omega | (simp; done) | (simp; omega))))))
  clear hb1
  go_wp2_with fail
  refine (new_any _ _ _ _).mono ?_; rintro e w2 ⟨rfl, hb2⟩
  rw [n1]
  have HC := (Reg.Has.at w1 w1.heap.size [.int .i64 100, .int .i64 300, .int .i64 2000] 23 rfl).call hb2
  replace bel : Below w.heap.size w w2 := by have := bel.size; exact (by repeat (first | (with_reducible exact Below.refl _ _) | (with_reducible assumption) | (with_reducible refine Below.drew ?_) | (with_reducible refine below_drewN ?_ _) | ((with_reducible refine bAlloc ?_ ?_ _); focus (first | omega | (simp; done) | (simp; omega))) | ((with_reducible refine bSet ?_ ?_ _); focus (first | omega | (simp; done) | (simp; omega))) | (refine Below.trans ?_ (Below.mono (by with_reducible assumption) (by first | omega | (simp; done) | (simp; omega))))))
  clear hb2 
  have p2HC_0 := HC.cell 0 _ rfl; have u2HC_0 := HC.free 0 (by simp)
  have p2HC_1 := HC.cell 1 _ rfl; have u2HC_1 := HC.free 1 (by simp)
  have p2HC_2 := HC.cell 2 _ rfl; have u2HC_2 := HC.free 2 (by simp)
  have z2HC := HC.lt
  go_wp2_with fail
  refine (retry_any _ _ _ _ _ _ _).mono ?_; rintro e w3 ⟨rfl, hb3⟩
  rw [a1, a2, a3]
  have HB := (Reg.Has.at w2 w2.heap.size [.int .i64 2000, .int .i64 0] 30 rfl).call hb3
  replace bel : Below w.heap.size w w3 := by have := bel.size; exact (by repeat (first | (with_reducible exact Below.refl _ _) | (with_reducible assumption) | (with_reducible refine Below.drew ?_) | (with_reducible refine below_drewN ?_ _) | ((with_reducible refine bAlloc ?_ ?_ _); focus (first | omega | (simp; done) | (simp; omega))) | ((with_reducible refine bSet ?_ ?_ _); focus (first | omega | (simp; done) | (simp; omega))) | (refine Below.trans ?_ (Below.mono (by with_reducible assumption) (by first | omega | (simp; done) | (simp; omega))))))
  replace HC := (HC.alloc _).call hb3
  clear hb3 p2HC_0 u2HC_0 p2HC_1 u2HC_1 p2HC_2 u2HC_2 z2HC
  have p3HC_0 := HC.cell 0 _ rfl; have u3HC_0 := HC.free 0 (by simp)
  have p3HC_1 := HC.cell 1 _ rfl; have u3HC_1 := HC.free 1 (by simp)
  have p3HC_2 := HC.cell 2 _ rfl; have u3HC_2 := HC.free 2 (by simp)
  have z3HC := HC.lt
  have p3HB_0 := HB.cell 0 _ rfl; have u3HB_0 := HB.free 0 (by simp)
  have p3HB_1 := HB.cell 1 _ rfl; have u3HB_1 := HB.free 1 (by simp)
  have z3HB := HB.lt
  go_wp2_with fail
  refine (request_any _ _ _ _ _ _ _).mono ?_; rintro e w4 ⟨rfl, hb4⟩
  rw [d1, d2, d3]
  have HA := (Reg.Has.at w3 w3.heap.size [.int .i64 1000, .int .i64 5] 30 rfl).call hb4
  replace bel : Below w.heap.size w w4 := by have := bel.size; exact (by repeat (first | (with_reducible exact Below.refl _ _) | (with_reducible assumption) | (with_reducible refine Below.drew ?_) | (with_reducible refine below_drewN ?_ _) | ((with_reducible refine bAlloc ?_ ?_ _); focus (first | omega | (simp; done) | (simp; omega))) | ((with_reducible refine bSet ?_ ?_ _); focus (first | omega | (simp; done) | (simp; omega))) | (refine Below.trans ?_ (Below.mono (by with_reducible assumption) (by first | omega | (simp; done) | (simp; omega))))))
  replace HC := (HC.alloc _).call hb4
  replace HB := (HB.alloc _).call hb4
  clear hb4 p3HC_0 u3HC_0 p3HC_1 u3HC_1 p3HC_2 u3HC_2 z3HC p3HB_0 u3HB_0 p3HB_1 u3HB_1 z3HB
  have p4HC_0 := HC.cell 0 _ rfl; have u4HC_0 := HC.free 0 (by simp)
  have p4HC_1 := HC.cell 1 _ rfl; have u4HC_1 := HC.free 1 (by simp)
  have p4HC_2 := HC.cell 2 _ rfl; have u4HC_2 := HC.free 2 (by simp)
  have z4HC := HC.lt
  have p4HB_0 := HB.cell 0 _ rfl; have u4HB_0 := HB.free 0 (by simp)
  have p4HB_1 := HB.cell 1 _ rfl; have u4HB_1 := HB.free 1 (by simp)
  have z4HB := HB.lt
  have p4HA_0 := HA.cell 0 _ rfl; have u4HA_0 := HA.free 0 (by simp)
  have p4HA_1 := HA.cell 1 _ rfl; have u4HA_1 := HA.free 1 (by simp)
  have z4HA := HA.lt
  go_wp2_with fail
  refine (request_any _ _ _ _ _ _ _).mono ?_; rintro e w5 ⟨rfl, hb5⟩
  rw [g1, g2, g3]
  have HD := (Reg.Has.at w4 w4.heap.size [.int .i64 1400, .int .i64 6] 30 rfl).call hb5
  replace bel : Below w.heap.size w w5 := by have := bel.size; exact (by repeat (first | (with_reducible exact Below.refl _ _) | (with_reducible assumption) | (with_reducible refine Below.drew ?_) | (with_reducible refine below_drewN ?_ _) | ((with_reducible refine bAlloc ?_ ?_ _); focus (first | omega | (simp; done) | (simp; omega))) | ((with_reducible refine bSet ?_ ?_ _); focus (first | omega | (simp; done) | (simp; omega))) | (refine Below.trans ?_ (Below.mono (by with_reducible assumption) (by first | omega | (simp; done) | (simp; omega))))))
  replace HC := (HC.alloc _).call hb5
  replace HB := (HB.alloc _).call hb5
  replace HA := (HA.alloc _).call hb5
  clear hb5 p4HC_0 u4HC_0 p4HC_1 u4HC_1 p4HC_2 u4HC_2 z4HC p4HB_0 u4HB_0 p4HB_1 u4HB_1 z4HB p4HA_0 u4HA_0 p4HA_1 u4HA_1 z4HA
  have p5HC_0 := HC.cell 0 _ rfl; have u5HC_0 := HC.free 0 (by simp)
  have p5HC_1 := HC.cell 1 _ rfl; have u5HC_1 := HC.free 1 (by simp)
  have p5HC_2 := HC.cell 2 _ rfl; have u5HC_2 := HC.free 2 (by simp)
  have z5HC := HC.lt
  have p5HB_0 := HB.cell 0 _ rfl; have u5HB_0 := HB.free 0 (by simp)
  have p5HB_1 := HB.cell 1 _ rfl; have u5HB_1 := HB.free 1 (by simp)
  have z5HB := HB.lt
  have p5HA_0 := HA.cell 0 _ rfl; have u5HA_0 := HA.free 0 (by simp)
  have p5HA_1 := HA.cell 1 _ rfl; have u5HA_1 := HA.free 1 (by simp)
  have z5HA := HA.lt
  have p5HD_0 := HD.cell 0 _ rfl; have u5HD_0 := HD.free 0 (by simp)
  have p5HD_1 := HD.cell 1 _ rfl; have u5HD_1 := HD.free 1 (by simp)
  have z5HD := HD.lt
  go_wp2_with fail
  refine (request_any _ _ _ _ _ _ _).mono ?_; rintro e w6 ⟨rfl, hb6⟩
  rw [h1, h2, h3]
  have HG := (Reg.Has.at w5 w5.heap.size [.int .i64 1000, .int .i64 5] 30 rfl).call hb6
  replace bel : Below w.heap.size w w6 := by have := bel.size; exact (by repeat (first | (with_reducible exact Below.refl _ _) | (with_reducible assumption) | (with_reducible refine Below.drew ?_) | (with_reducible refine below_drewN ?_ _) | ((with_reducible refine bAlloc ?_ ?_ _); focus (first | omega | (simp; done) | (simp; omega))) | ((with_reducible refine bSet ?_ ?_ _); focus (first | omega | (simp; done) | (simp; omega))) | (refine Below.trans ?_ (Below.mono (by with_reducible assumption) (by first | omega | (simp; done) | (simp; omega))))))
  replace HC := (HC.alloc _).call hb6
  replace HB := (HB.alloc _).call hb6
  replace HA := (HA.alloc _).call hb6
  replace HD := (HD.alloc _).call hb6
  clear hb6 p5HC_0 u5HC_0 p5HC_1 u5HC_1 p5HC_2 u5HC_2 z5HC p5HB_0 u5HB_0 p5HB_1 u5HB_1 z5HB p5HA_0 u5HA_0 p5HA_1 u5HA_1 z5HA p5HD_0 u5HD_0 p5HD_1 u5HD_1 z5HD
  have p6HC_0 := HC.cell 0 _ rfl; have u6HC_0 := HC.free 0 (by simp)
  have p6HC_1 := HC.cell 1 _ rfl; have u6HC_1 := HC.free 1 (by simp)
  have p6HC_2 := HC.cell 2 _ rfl; have u6HC_2 := HC.free 2 (by simp)
  have z6HC := HC.lt
  have p6HB_0 := HB.cell 0 _ rfl; have u6HB_0 := HB.free 0 (by simp)
  have p6HB_1 := HB.cell 1 _ rfl; have u6HB_1 := HB.free 1 (by simp)
  have z6HB := HB.lt
  have p6HA_0 := HA.cell 0 _ rfl; have u6HA_0 := HA.free 0 (by simp)
  have p6HA_1 := HA.cell 1 _ rfl; have u6HA_1 := HA.free 1 (by simp)
  have z6HA := HA.lt
  have p6HD_0 := HD.cell 0 _ rfl; have u6HD_0 := HD.free 0 (by simp)
  have p6HD_1 := HD.cell 1 _ rfl; have u6HD_1 := HD.free 1 (by simp)
  have z6HD := HD.lt
  have p6HG_0 := HG.cell 0 _ rfl; have u6HG_0 := HG.free 0 (by simp)
  have p6HG_1 := HG.cell 1 _ rfl; have u6HG_1 := HG.free 1 (by simp)
  have z6HG := HG.lt
  go_wp2_with fail
  refine (retry_any _ _ _ _ _ _ _).mono ?_; rintro e w7 ⟨rfl, hb7⟩
  rw [i1, i2, i3]
  have HH := (Reg.Has.at w6 w6.heap.size [.int .i64 2001, .int .i64 0] 30 rfl).call hb7
  replace bel : Below w.heap.size w w7 := by have := bel.size; exact (by repeat (first | (with_reducible exact Below.refl _ _) | (with_reducible assumption) | (with_reducible refine Below.drew ?_) | (with_reducible refine below_drewN ?_ _) | ((with_reducible refine bAlloc ?_ ?_ _); focus (first | omega | (simp; done) | (simp; omega))) | ((with_reducible refine bSet ?_ ?_ _); focus (first | omega | (simp; done) | (simp; omega))) | (refine Below.trans ?_ (Below.mono (by with_reducible assumption) (by first | omega | (simp; done) | (simp; omega))))))
  replace HC := (HC.alloc _).call hb7
  replace HB := (HB.alloc _).call hb7
  replace HA := (HA.alloc _).call hb7
  replace HD := (HD.alloc _).call hb7
  replace HG := (HG.alloc _).call hb7
  clear hb7 p6HC_0 u6HC_0 p6HC_1 u6HC_1 p6HC_2 u6HC_2 z6HC p6HB_0 u6HB_0 p6HB_1 u6HB_1 z6HB p6HA_0 u6HA_0 p6HA_1 u6HA_1 z6HA p6HD_0 u6HD_0 p6HD_1 u6HD_1 z6HD p6HG_0 u6HG_0 p6HG_1 u6HG_1 z6HG
  have p7HC_0 := HC.cell 0 _ rfl; have u7HC_0 := HC.free 0 (by simp)
  have p7HC_1 := HC.cell 1 _ rfl; have u7HC_1 := HC.free 1 (by simp)
  have p7HC_2 := HC.cell 2 _ rfl; have u7HC_2 := HC.free 2 (by simp)
  have z7HC := HC.lt
  have p7HB_0 := HB.cell 0 _ rfl; have u7HB_0 := HB.free 0 (by simp)
  have p7HB_1 := HB.cell 1 _ rfl; have u7HB_1 := HB.free 1 (by simp)
  have z7HB := HB.lt
  have p7HA_0 := HA.cell 0 _ rfl; have u7HA_0 := HA.free 0 (by simp)
  have p7HA_1 := HA.cell 1 _ rfl; have u7HA_1 := HA.free 1 (by simp)
  have z7HA := HA.lt
  have p7HD_0 := HD.cell 0 _ rfl; have u7HD_0 := HD.free 0 (by simp)
  have p7HD_1 := HD.cell 1 _ rfl; have u7HD_1 := HD.free 1 (by simp)
  have z7HD := HD.lt
  have p7HG_0 := HG.cell 0 _ rfl; have u7HG_0 := HG.free 0 (by simp)
  have p7HG_1 := HG.cell 1 _ rfl; have u7HG_1 := HG.free 1 (by simp)
  have z7HG := HG.lt
  have p7HH_0 := HH.cell 0 _ rfl; have u7HH_0 := HH.free 0 (by simp)
  have p7HH_1 := HH.cell 1 _ rfl; have u7HH_1 := HH.free 1 (by simp)
  have z7HH := HH.lt
  go_wp2_with fail
  refine (retry_any _ _ _ _ _ _ _).mono ?_; rintro e w8 ⟨rfl, hb8⟩
  rw [j1, j2, j3]
  have HI := (Reg.Has.at w7 w7.heap.size [.int .i64 2000, .int .i64 0] 30 rfl).call hb8
  replace bel : Below w.heap.size w w8 := by have := bel.size; exact (by repeat (first | (with_reducible exact Below.refl _ _) | (with_reducible assumption) | (with_reducible refine Below.drew ?_) | (with_reducible refine below_drewN ?_ _) | ((with_reducible refine bAlloc ?_ ?_ _); focus (first | omega | (simp; done) | (simp; omega))) | ((with_reducible refine bSet ?_ ?_ _); focus (first | omega | (simp; done) | (simp; omega))) | (refine Below.trans ?_ (Below.mono (by with_reducible assumption) (by first | omega | (simp; done) | (simp; omega))))))
  replace HC := (HC.alloc _).call hb8
  replace HB := (HB.alloc _).call hb8
  replace HA := (HA.alloc _).call hb8
  replace HD := (HD.alloc _).call hb8
  replace HG := (HG.alloc _).call hb8
  replace HH := (HH.alloc _).call hb8
  clear hb8 p7HC_0 u7HC_0 p7HC_1 u7HC_1 p7HC_2 u7HC_2 z7HC p7HB_0 u7HB_0 p7HB_1 u7HB_1 z7HB p7HA_0 u7HA_0 p7HA_1 u7HA_1 z7HA p7HD_0 u7HD_0 p7HD_1 u7HD_1 z7HD p7HG_0 u7HG_0 p7HG_1 u7HG_1 z7HG p7HH_0 u7HH_0 p7HH_1 u7HH_1 z7HH
  have p8HC_0 := HC.cell 0 _ rfl; have u8HC_0 := HC.free 0 (by simp)
  have p8HC_1 := HC.cell 1 _ rfl; have u8HC_1 := HC.free 1 (by simp)
  have p8HC_2 := HC.cell 2 _ rfl; have u8HC_2 := HC.free 2 (by simp)
  have z8HC := HC.lt
  have p8HB_0 := HB.cell 0 _ rfl; have u8HB_0 := HB.free 0 (by simp)
  have p8HB_1 := HB.cell 1 _ rfl; have u8HB_1 := HB.free 1 (by simp)
  have z8HB := HB.lt
  have p8HA_0 := HA.cell 0 _ rfl; have u8HA_0 := HA.free 0 (by simp)
  have p8HA_1 := HA.cell 1 _ rfl; have u8HA_1 := HA.free 1 (by simp)
  have z8HA := HA.lt
  have p8HD_0 := HD.cell 0 _ rfl; have u8HD_0 := HD.free 0 (by simp)
  have p8HD_1 := HD.cell 1 _ rfl; have u8HD_1 := HD.free 1 (by simp)
  have z8HD := HD.lt
  have p8HG_0 := HG.cell 0 _ rfl; have u8HG_0 := HG.free 0 (by simp)
  have p8HG_1 := HG.cell 1 _ rfl; have u8HG_1 := HG.free 1 (by simp)
  have z8HG := HG.lt
  have p8HH_0 := HH.cell 0 _ rfl; have u8HH_0 := HH.free 0 (by simp)
  have p8HH_1 := HH.cell 1 _ rfl; have u8HH_1 := HH.free 1 (by simp)
  have z8HH := HH.lt
  have p8HI_0 := HI.cell 0 _ rfl; have u8HI_0 := HI.free 0 (by simp)
  have p8HI_1 := HI.cell 1 _ rfl; have u8HI_1 := HI.free 1 (by simp)
  have z8HI := HI.lt
  go_wp2_with fail
  refine (at_any _ _ _ _ _ _ _).mono ?_; rintro e w9 ⟨rfl, hb9⟩
  rw [k1, k2]
  have HJ := (Reg.Has.at w8 w8.heap.size [.int .i64 0, .int .i64 5] 30 rfl).call hb9
  replace bel : Below w.heap.size w w9 := by have := bel.size; exact (by repeat (first | (with_reducible exact Below.refl _ _) | (with_reducible assumption) | (with_reducible refine Below.drew ?_) | (with_reducible refine below_drewN ?_ _) | ((with_reducible refine bAlloc ?_ ?_ _); focus (first | omega | (simp; done) | (simp; omega))) | ((with_reducible refine bSet ?_ ?_ _); focus (first | omega | (simp; done) | (simp; omega))) | (refine Below.trans ?_ (Below.mono (by with_reducible assumption) (by first | omega | (simp; done) | (simp; omega))))))
  replace HC := (HC.alloc _).call hb9
  replace HB := (HB.alloc _).call hb9
  replace HA := (HA.alloc _).call hb9
  replace HD := (HD.alloc _).call hb9
  replace HG := (HG.alloc _).call hb9
  replace HH := (HH.alloc _).call hb9
  replace HI := (HI.alloc _).call hb9
  clear hb9 p8HC_0 u8HC_0 p8HC_1 u8HC_1 p8HC_2 u8HC_2 z8HC p8HB_0 u8HB_0 p8HB_1 u8HB_1 z8HB p8HA_0 u8HA_0 p8HA_1 u8HA_1 z8HA p8HD_0 u8HD_0 p8HD_1 u8HD_1 z8HD p8HG_0 u8HG_0 p8HG_1 u8HG_1 z8HG p8HH_0 u8HH_0 p8HH_1 u8HH_1 z8HH p8HI_0 u8HI_0 p8HI_1 u8HI_1 z8HI
  have p9HC_0 := HC.cell 0 _ rfl; have u9HC_0 := HC.free 0 (by simp)
  have p9HC_1 := HC.cell 1 _ rfl; have u9HC_1 := HC.free 1 (by simp)
  have p9HC_2 := HC.cell 2 _ rfl; have u9HC_2 := HC.free 2 (by simp)
  have z9HC := HC.lt
  have p9HB_0 := HB.cell 0 _ rfl; have u9HB_0 := HB.free 0 (by simp)
  have p9HB_1 := HB.cell 1 _ rfl; have u9HB_1 := HB.free 1 (by simp)
  have z9HB := HB.lt
  have p9HA_0 := HA.cell 0 _ rfl; have u9HA_0 := HA.free 0 (by simp)
  have p9HA_1 := HA.cell 1 _ rfl; have u9HA_1 := HA.free 1 (by simp)
  have z9HA := HA.lt
  have p9HD_0 := HD.cell 0 _ rfl; have u9HD_0 := HD.free 0 (by simp)
  have p9HD_1 := HD.cell 1 _ rfl; have u9HD_1 := HD.free 1 (by simp)
  have z9HD := HD.lt
  have p9HG_0 := HG.cell 0 _ rfl; have u9HG_0 := HG.free 0 (by simp)
  have p9HG_1 := HG.cell 1 _ rfl; have u9HG_1 := HG.free 1 (by simp)
  have z9HG := HG.lt
  have p9HH_0 := HH.cell 0 _ rfl; have u9HH_0 := HH.free 0 (by simp)
  have p9HH_1 := HH.cell 1 _ rfl; have u9HH_1 := HH.free 1 (by simp)
  have z9HH := HH.lt
  have p9HI_0 := HI.cell 0 _ rfl; have u9HI_0 := HI.free 0 (by simp)
  have p9HI_1 := HI.cell 1 _ rfl; have u9HI_1 := HI.free 1 (by simp)
  have z9HI := HI.lt
  have p9HJ_0 := HJ.cell 0 _ rfl; have u9HJ_0 := HJ.free 0 (by simp)
  have p9HJ_1 := HJ.cell 1 _ rfl; have u9HJ_1 := HJ.free 1 (by simp)
  have z9HJ := HJ.lt
  go_wp2_with fail
  refine (at_any _ _ _ _ _ _ _).mono ?_; rintro e w10 ⟨rfl, hb10⟩
  rw [k3, k4]
  replace bel := bel.trans (hb10.mono bel.size)
  replace HC := HC.call hb10
  replace HB := HB.call hb10
  replace HA := HA.call hb10
  replace HD := HD.call hb10
  replace HG := HG.call hb10
  replace HH := HH.call hb10
  replace HI := HI.call hb10
  replace HJ := HJ.call hb10
  clear hb10 p9HC_0 u9HC_0 p9HC_1 u9HC_1 p9HC_2 u9HC_2 z9HC p9HB_0 u9HB_0 p9HB_1 u9HB_1 z9HB p9HA_0 u9HA_0 p9HA_1 u9HA_1 z9HA p9HD_0 u9HD_0 p9HD_1 u9HD_1 z9HD p9HG_0 u9HG_0 p9HG_1 u9HG_1 z9HG p9HH_0 u9HH_0 p9HH_1 u9HH_1 z9HH p9HI_0 u9HI_0 p9HI_1 u9HI_1 z9HI p9HJ_0 u9HJ_0 p9HJ_1 u9HJ_1 z9HJ
  have p10HC_0 := HC.cell 0 _ rfl; have u10HC_0 := HC.free 0 (by simp)
  have p10HC_1 := HC.cell 1 _ rfl; have u10HC_1 := HC.free 1 (by simp)
  have p10HC_2 := HC.cell 2 _ rfl; have u10HC_2 := HC.free 2 (by simp)
  have z10HC := HC.lt
  have p10HB_0 := HB.cell 0 _ rfl; have u10HB_0 := HB.free 0 (by simp)
  have p10HB_1 := HB.cell 1 _ rfl; have u10HB_1 := HB.free 1 (by simp)
  have z10HB := HB.lt
  have p10HA_0 := HA.cell 0 _ rfl; have u10HA_0 := HA.free 0 (by simp)
  have p10HA_1 := HA.cell 1 _ rfl; have u10HA_1 := HA.free 1 (by simp)
  have z10HA := HA.lt
  have p10HD_0 := HD.cell 0 _ rfl; have u10HD_0 := HD.free 0 (by simp)
  have p10HD_1 := HD.cell 1 _ rfl; have u10HD_1 := HD.free 1 (by simp)
  have z10HD := HD.lt
  have p10HG_0 := HG.cell 0 _ rfl; have u10HG_0 := HG.free 0 (by simp)
  have p10HG_1 := HG.cell 1 _ rfl; have u10HG_1 := HG.free 1 (by simp)
  have z10HG := HG.lt
  have p10HH_0 := HH.cell 0 _ rfl; have u10HH_0 := HH.free 0 (by simp)
  have p10HH_1 := HH.cell 1 _ rfl; have u10HH_1 := HH.free 1 (by simp)
  have z10HH := HH.lt
  have p10HI_0 := HI.cell 0 _ rfl; have u10HI_0 := HI.free 0 (by simp)
  have p10HI_1 := HI.cell 1 _ rfl; have u10HI_1 := HI.free 1 (by simp)
  have z10HI := HI.lt
  have p10HJ_0 := HJ.cell 0 _ rfl; have u10HJ_0 := HJ.free 0 (by simp)
  have p10HJ_1 := HJ.cell 1 _ rfl; have u10HJ_1 := HJ.free 1 (by simp)
  have z10HJ := HJ.lt
  go_wp2_with fail
  refine (may'_any _ _ _ _ _ _ _).mono ?_; rintro e w11 ⟨rfl, hb11⟩
  rw [m1]
  replace bel := bel.trans (hb11.mono bel.size)
  replace HC := HC.call hb11
  replace HB := HB.call hb11
  replace HA := HA.call hb11
  replace HD := HD.call hb11
  replace HG := HG.call hb11
  replace HH := HH.call hb11
  replace HI := HI.call hb11
  replace HJ := HJ.call hb11
  clear hb11 p10HC_0 u10HC_0 p10HC_1 u10HC_1 p10HC_2 u10HC_2 z10HC p10HB_0 u10HB_0 p10HB_1 u10HB_1 z10HB p10HA_0 u10HA_0 p10HA_1 u10HA_1 z10HA p10HD_0 u10HD_0 p10HD_1 u10HD_1 z10HD p10HG_0 u10HG_0 p10HG_1 u10HG_1 z10HG p10HH_0 u10HH_0 p10HH_1 u10HH_1 z10HH p10HI_0 u10HI_0 p10HI_1 u10HI_1 z10HI p10HJ_0 u10HJ_0 p10HJ_1 u10HJ_1 z10HJ
  have p11HC_0 := HC.cell 0 _ rfl; have u11HC_0 := HC.free 0 (by simp)
  have p11HC_1 := HC.cell 1 _ rfl; have u11HC_1 := HC.free 1 (by simp)
  have p11HC_2 := HC.cell 2 _ rfl; have u11HC_2 := HC.free 2 (by simp)
  have z11HC := HC.lt
  have p11HB_0 := HB.cell 0 _ rfl; have u11HB_0 := HB.free 0 (by simp)
  have p11HB_1 := HB.cell 1 _ rfl; have u11HB_1 := HB.free 1 (by simp)
  have z11HB := HB.lt
  have p11HA_0 := HA.cell 0 _ rfl; have u11HA_0 := HA.free 0 (by simp)
  have p11HA_1 := HA.cell 1 _ rfl; have u11HA_1 := HA.free 1 (by simp)
  have z11HA := HA.lt
  have p11HD_0 := HD.cell 0 _ rfl; have u11HD_0 := HD.free 0 (by simp)
  have p11HD_1 := HD.cell 1 _ rfl; have u11HD_1 := HD.free 1 (by simp)
  have z11HD := HD.lt
  have p11HG_0 := HG.cell 0 _ rfl; have u11HG_0 := HG.free 0 (by simp)
  have p11HG_1 := HG.cell 1 _ rfl; have u11HG_1 := HG.free 1 (by simp)
  have z11HG := HG.lt
  have p11HH_0 := HH.cell 0 _ rfl; have u11HH_0 := HH.free 0 (by simp)
  have p11HH_1 := HH.cell 1 _ rfl; have u11HH_1 := HH.free 1 (by simp)
  have z11HH := HH.lt
  have p11HI_0 := HI.cell 0 _ rfl; have u11HI_0 := HI.free 0 (by simp)
  have p11HI_1 := HI.cell 1 _ rfl; have u11HI_1 := HI.free 1 (by simp)
  have z11HI := HI.lt
  have p11HJ_0 := HJ.cell 0 _ rfl; have u11HJ_0 := HJ.free 0 (by simp)
  have p11HJ_1 := HJ.cell 1 _ rfl; have u11HJ_1 := HJ.free 1 (by simp)
  have z11HJ := HJ.lt
  go_wp2_with fail
  refine (may'_any _ _ _ _ _ _ _).mono ?_; rintro e w12 ⟨rfl, hb12⟩
  rw [m2]
  replace bel := bel.trans (hb12.mono bel.size)
  replace HC := HC.call hb12
  replace HB := HB.call hb12
  replace HA := HA.call hb12
  replace HD := HD.call hb12
  replace HG := HG.call hb12
  replace HH := HH.call hb12
  replace HI := HI.call hb12
  replace HJ := HJ.call hb12
  clear hb12 p11HC_0 u11HC_0 p11HC_1 u11HC_1 p11HC_2 u11HC_2 z11HC p11HB_0 u11HB_0 p11HB_1 u11HB_1 z11HB p11HA_0 u11HA_0 p11HA_1 u11HA_1 z11HA p11HD_0 u11HD_0 p11HD_1 u11HD_1 z11HD p11HG_0 u11HG_0 p11HG_1 u11HG_1 z11HG p11HH_0 u11HH_0 p11HH_1 u11HH_1 z11HH p11HI_0 u11HI_0 p11HI_1 u11HI_1 z11HI p11HJ_0 u11HJ_0 p11HJ_1 u11HJ_1 z11HJ
  have p12HC_0 := HC.cell 0 _ rfl; have u12HC_0 := HC.free 0 (by simp)
  have p12HC_1 := HC.cell 1 _ rfl; have u12HC_1 := HC.free 1 (by simp)
  have p12HC_2 := HC.cell 2 _ rfl; have u12HC_2 := HC.free 2 (by simp)
  have z12HC := HC.lt
  have p12HB_0 := HB.cell 0 _ rfl; have u12HB_0 := HB.free 0 (by simp)
  have p12HB_1 := HB.cell 1 _ rfl; have u12HB_1 := HB.free 1 (by simp)
  have z12HB := HB.lt
  have p12HA_0 := HA.cell 0 _ rfl; have u12HA_0 := HA.free 0 (by simp)
  have p12HA_1 := HA.cell 1 _ rfl; have u12HA_1 := HA.free 1 (by simp)
  have z12HA := HA.lt
  have p12HD_0 := HD.cell 0 _ rfl; have u12HD_0 := HD.free 0 (by simp)
  have p12HD_1 := HD.cell 1 _ rfl; have u12HD_1 := HD.free 1 (by simp)
  have z12HD := HD.lt
  have p12HG_0 := HG.cell 0 _ rfl; have u12HG_0 := HG.free 0 (by simp)
  have p12HG_1 := HG.cell 1 _ rfl; have u12HG_1 := HG.free 1 (by simp)
  have z12HG := HG.lt
  have p12HH_0 := HH.cell 0 _ rfl; have u12HH_0 := HH.free 0 (by simp)
  have p12HH_1 := HH.cell 1 _ rfl; have u12HH_1 := HH.free 1 (by simp)
  have z12HH := HH.lt
  have p12HI_0 := HI.cell 0 _ rfl; have u12HI_0 := HI.free 0 (by simp)
  have p12HI_1 := HI.cell 1 _ rfl; have u12HI_1 := HI.free 1 (by simp)
  have z12HI := HI.lt
  have p12HJ_0 := HJ.cell 0 _ rfl; have u12HJ_0 := HJ.free 0 (by simp)
  have p12HJ_1 := HJ.cell 1 _ rfl; have u12HJ_1 := HJ.free 1 (by simp)
  have z12HJ := HJ.lt
  go_wp2_with fail
  refine (check_any _ _ _ _).mono ?_; rintro e w13 ⟨rfl, hb13⟩
  rw [m3]
  replace bel := bel.trans (hb13.mono bel.size)
  replace HC := HC.call hb13
  replace HB := HB.call hb13
  replace HA := HA.call hb13
  replace HD := HD.call hb13
  replace HG := HG.call hb13
  replace HH := HH.call hb13
  replace HI := HI.call hb13
  replace HJ := HJ.call hb13
  clear hb13 p12HC_0 u12HC_0 p12HC_1 u12HC_1 p12HC_2 u12HC_2 z12HC p12HB_0 u12HB_0 p12HB_1 u12HB_1 z12HB p12HA_0 u12HA_0 p12HA_1 u12HA_1 z12HA p12HD_0 u12HD_0 p12HD_1 u12HD_1 z12HD p12HG_0 u12HG_0 p12HG_1 u12HG_1 z12HG p12HH_0 u12HH_0 p12HH_1 u12HH_1 z12HH p12HI_0 u12HI_0 p12HI_1 u12HI_1 z12HI p12HJ_0 u12HJ_0 p12HJ_1 u12HJ_1 z12HJ
  have p13HC_0 := HC.cell 0 _ rfl; have u13HC_0 := HC.free 0 (by simp)
  have p13HC_1 := HC.cell 1 _ rfl; have u13HC_1 := HC.free 1 (by simp)
  have p13HC_2 := HC.cell 2 _ rfl; have u13HC_2 := HC.free 2 (by simp)
  have z13HC := HC.lt
  have p13HB_0 := HB.cell 0 _ rfl; have u13HB_0 := HB.free 0 (by simp)
  have p13HB_1 := HB.cell 1 _ rfl; have u13HB_1 := HB.free 1 (by simp)
  have z13HB := HB.lt
  have p13HA_0 := HA.cell 0 _ rfl; have u13HA_0 := HA.free 0 (by simp)
  have p13HA_1 := HA.cell 1 _ rfl; have u13HA_1 := HA.free 1 (by simp)
  have z13HA := HA.lt
  have p13HD_0 := HD.cell 0 _ rfl; have u13HD_0 := HD.free 0 (by simp)
  have p13HD_1 := HD.cell 1 _ rfl; have u13HD_1 := HD.free 1 (by simp)
  have z13HD := HD.lt
  have p13HG_0 := HG.cell 0 _ rfl; have u13HG_0 := HG.free 0 (by simp)
  have p13HG_1 := HG.cell 1 _ rfl; have u13HG_1 := HG.free 1 (by simp)
  have z13HG := HG.lt
  have p13HH_0 := HH.cell 0 _ rfl; have u13HH_0 := HH.free 0 (by simp)
  have p13HH_1 := HH.cell 1 _ rfl; have u13HH_1 := HH.free 1 (by simp)
  have z13HH := HH.lt
  have p13HI_0 := HI.cell 0 _ rfl; have u13HI_0 := HI.free 0 (by simp)
  have p13HI_1 := HI.cell 1 _ rfl; have u13HI_1 := HI.free 1 (by simp)
  have z13HI := HI.lt
  have p13HJ_0 := HJ.cell 0 _ rfl; have u13HJ_0 := HJ.free 0 (by simp)
  have p13HJ_1 := HJ.cell 1 _ rfl; have u13HJ_1 := HJ.free 1 (by simp)
  have z13HJ := HJ.lt
  go_wp2_with fail
  refine (new_any _ _ _ _).mono ?_; rintro e w14 ⟨rfl, hb14⟩
  rw [m4]
  replace bel := bel.trans (hb14.mono bel.size)
  replace HC := HC.call hb14
  replace HB := HB.call hb14
  replace HA := HA.call hb14
  replace HD := HD.call hb14
  replace HG := HG.call hb14
  replace HH := HH.call hb14
  replace HI := HI.call hb14
  replace HJ := HJ.call hb14
  clear hb14 p13HC_0 u13HC_0 p13HC_1 u13HC_1 p13HC_2 u13HC_2 z13HC p13HB_0 u13HB_0 p13HB_1 u13HB_1 z13HB p13HA_0 u13HA_0 p13HA_1 u13HA_1 z13HA p13HD_0 u13HD_0 p13HD_1 u13HD_1 z13HD p13HG_0 u13HG_0 p13HG_1 u13HG_1 z13HG p13HH_0 u13HH_0 p13HH_1 u13HH_1 z13HH p13HI_0 u13HI_0 p13HI_1 u13HI_1 z13HI p13HJ_0 u13HJ_0 p13HJ_1 u13HJ_1 z13HJ
  have p14HC_0 := HC.cell 0 _ rfl; have u14HC_0 := HC.free 0 (by simp)
  have p14HC_1 := HC.cell 1 _ rfl; have u14HC_1 := HC.free 1 (by simp)
  have p14HC_2 := HC.cell 2 _ rfl; have u14HC_2 := HC.free 2 (by simp)
  have z14HC := HC.lt
  have p14HB_0 := HB.cell 0 _ rfl; have u14HB_0 := HB.free 0 (by simp)
  have p14HB_1 := HB.cell 1 _ rfl; have u14HB_1 := HB.free 1 (by simp)
  have z14HB := HB.lt
  have p14HA_0 := HA.cell 0 _ rfl; have u14HA_0 := HA.free 0 (by simp)
  have p14HA_1 := HA.cell 1 _ rfl; have u14HA_1 := HA.free 1 (by simp)
  have z14HA := HA.lt
  have p14HD_0 := HD.cell 0 _ rfl; have u14HD_0 := HD.free 0 (by simp)
  have p14HD_1 := HD.cell 1 _ rfl; have u14HD_1 := HD.free 1 (by simp)
  have z14HD := HD.lt
  have p14HG_0 := HG.cell 0 _ rfl; have u14HG_0 := HG.free 0 (by simp)
  have p14HG_1 := HG.cell 1 _ rfl; have u14HG_1 := HG.free 1 (by simp)
  have z14HG := HG.lt
  have p14HH_0 := HH.cell 0 _ rfl; have u14HH_0 := HH.free 0 (by simp)
  have p14HH_1 := HH.cell 1 _ rfl; have u14HH_1 := HH.free 1 (by simp)
  have z14HH := HH.lt
  have p14HI_0 := HI.cell 0 _ rfl; have u14HI_0 := HI.free 0 (by simp)
  have p14HI_1 := HI.cell 1 _ rfl; have u14HI_1 := HI.free 1 (by simp)
  have z14HI := HI.lt
  have p14HJ_0 := HJ.cell 0 _ rfl; have u14HJ_0 := HJ.free 0 (by simp)
  have p14HJ_1 := HJ.cell 1 _ rfl; have u14HJ_1 := HJ.free 1 (by simp)
  have z14HJ := HJ.lt
  go_wp2
  go_ret
  exact ⟨rfl, bel⟩
end Go.Proofs.Ytdaankgaigjahaa.Bud
