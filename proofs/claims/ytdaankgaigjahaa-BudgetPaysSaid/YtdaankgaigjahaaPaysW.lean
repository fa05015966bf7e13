/- The walk of the law BudgetPays: there are never more retries than Most and what requests and seconds added pay for. -/
import Derived.Test.YtdaankgaigjahaaActs
import Derived.Test.YtdaankgaigjahaaWaitsW
namespace Go.Proofs.Ytdaankgaigjahaa.Bud
open Go.RowKit

/-- What holds behind k acts. -/
structure Paid (r s m : Int) (k : Nat) (now rq rt v a : Int) : Prop where
  v0 : 0 ≤ v
  vm : v ≤ m
  a0 : 0 ≤ a
  an : a ≤ now
  nk : now ≤ 29 * k
  q0 : 0 ≤ rq
  qk : rq ≤ k
  t0 : 0 ≤ rt
  tk : rt ≤ k
  pay : rt * 1000 + v ≤ m + rq * r + a * s

theorem paid_start (r s m : Int) (kc : okC r s m) : Paid r s m 0 0 0 0 m 0 := by
  obtain ⟨c1, c2, c3, c4, c5, c6⟩ := kc
  exact ⟨c5, by omega, by omega, by omega, by omega, by omega, by omega, by omega, by omega, by simp⟩

theorem paid_ok {r s m : Int} {k : Nat} {now rq rt v a p : Int} (h : Paid r s m k now rq rt v a) (hk : k < 100) (hp : 0 ≤ p ∧ p < 30) : okB m v a (now + p) := by
  obtain ⟨h1, h2, h3, h4, h5, h6, h7, h8, h9, h10⟩ := h
  exact ⟨by omega, by omega, h1, h2, h3, by omega⟩

/-- brought up to a time, no more than the seconds add -/
theorem as_le {r s m v a n : Int} (kc : okC r s m) (kb : okB m v a n) (hn : a ≤ n) : asH s m v a n + a * s ≤ v + n * s := by
  obtain ⟨p, e⟩ := asH_min kc kb hn
  have : (n - a) * s = n * s - a * s := Int.sub_mul _ _ _
  omega

theorem paid_retry {r s m : Int} {k : Nat} {now rq rt v a p : Int} (kc : okC r s m) (h : Paid r s m k now rq rt v a) (hk : k < 100) (hp : 0 ≤ p ∧ p < 30) (hr : 1000 ≤ asH s m v a (now + p)) :
    Paid r s m (k + 1) (now + p) rq (rt + 1) (asH s m v a (now + p) - 1000) (now + p) := by
  have kb := paid_ok h hk hp
  have hle := as_le kc kb (by have := h.an; omega)
  have hbd := asH_bd kc kb
  obtain ⟨h1, h2, h3, h4, h5, h6, h7, h8, h9, h10⟩ := h
  exact ⟨by omega, by omega, by omega, by omega, by push_cast; omega, by omega, by push_cast; omega, by omega, by push_cast; omega, by omega⟩

theorem paid_full {r s m : Int} {k : Nat} {now rq rt v a p : Int} (h : Paid r s m k now rq rt v a) (hp : 0 ≤ p ∧ p < 30) : Paid r s m (k + 1) (now + p) rq rt v a := by
  obtain ⟨h1, h2, h3, h4, h5, h6, h7, h8, h9, h10⟩ := h
  exact ⟨by omega, by omega, by omega, by omega, by push_cast; omega, by omega, by push_cast; omega, by omega, by push_cast; omega, by omega⟩

theorem paid_request {r s m : Int} {k : Nat} {now rq rt v a p : Int} (kc : okC r s m) (h : Paid r s m k now rq rt v a) (hk : k < 100) (hp : 0 ≤ p ∧ p < 30) :
    Paid r s m (k + 1) (now + p) (rq + 1) rt (min m (asH s m v a (now + p) + r)) (now + p) := by
  have kb := paid_ok h hk hp
  have hle := as_le kc kb (by have := h.an; omega)
  have hbd := asH_bd kc kb
  obtain ⟨h1, h2, h3, h4, h5, h6, h7, h8, h9, h10⟩ := h
  obtain ⟨c1, c2, c3, c4, c5, c6⟩ := kc
  have e : (rq + 1) * r = rq * r + r := by rw [Int.add_mul]; omega
  exact ⟨by omega, by omega, by omega, by omega, by push_cast; omega, by omega, by push_cast; omega, by omega, by push_cast; omega, by omega⟩

/-- what the law asks behind each act -/
theorem paid_test {r s m : Int} {k : Nat} {now rq rt v a : Int} (kc : okC r s m) (h : Paid r s m k now rq rt v a) (hk : k ≤ 100) :
    0 ≤ rq * r ∧ rq * r ≤ 104857600 ∧ 0 ≤ now * s ∧ now * s ≤ 3040870400 ∧ rt * 1000 ≤ m + rq * r + now * s := by
  obtain ⟨h1, h2, h3, h4, h5, h6, h7, h8, h9, h10⟩ := h
  obtain ⟨c1, c2, c3, c4, c5, c6⟩ := kc
  have p1 : 0 ≤ rq * r := Int.mul_nonneg h6 c1
  have p2 : rq * r ≤ 100 * 1048576 := Int.mul_le_mul (by omega) c2 c1 (by omega)
  have p3 : 0 ≤ now * s := Int.mul_nonneg (by omega) c3
  have p4 : now * s ≤ 2900 * 1048576 := Int.mul_le_mul (by omega) c4 c3 (by omega)
  have p5 : a * s ≤ now * s := Int.mul_le_mul_of_nonneg_right h4 c3
  omega

theorem field_have (x y : Value) (w : World) : (Instr.field 30 (.agg #[x, y]) 0).run Try.prog w = .ok x w := by kernel_rfl

set_option maxRecDepth 100000 in
set_option maxHeartbeats 4000000 in
theorem pays_main (r s m : Int) (kc : okC r s m) (sv : Value) (L : List (Bool × Int)) (hL : L.length ≤ 100) (w : World) (hA : Acts w sv L) :
    Calls Try.prog 7 #[.agg #[.int .i64 r, .int .i64 s, .int .i64 m], sv] w fun e w' => e = .returned (.bool true) ∧ Below w.heap.size w w' := by
  obtain ⟨ao, cap, rfl, hcells⟩ := hA
  have hck := chk_yes kc
  have hnew : newH r s m = m := if_pos kc
  go_enter Try.func7, Try.ntmps7
  go_wp2_with fail
  refine (lives_any _).mono ?_; rintro e w1 ⟨rfl, hb1⟩
  have bel : Below w.heap.size w w1 := (by repeat (first | (with_reducible exact Below.refl _ _) | (with_reducible assumption) | (with_reducible refine Below.drew ?_) | (with_reducible refine below_drewN ?_ _) | ((with_reducible refine bAlloc ?_ ?_ _); focus (first | omega | (simp; done) | (simp; omega))) | ((with_reducible refine bSet ?_ ?_ _); focus (first | omega | (simp; done) | (simp; omega))) | (refine Below.trans ?_ (Below.mono (by with_reducible assumption) (by first | omega | (simp; done) | (simp; omega))))))
  have HC := (Reg.Has.at w w.heap.size [.int .i64 r, .int .i64 s, .int .i64 m] 23 rfl).call hb1
  clear hb1
  have p1 := HC.cell 0 _ rfl; have q1 := HC.cell 1 _ rfl; have r1 := HC.cell 2 _ rfl; have u1 := HC.free 0 (by simp); have v1 := HC.free 1 (by simp); have x1 := HC.free 2 (by simp); have z1 := HC.lt
  go_wp2_with fail
  refine (check_any _ _ _ _).mono ?_; rintro e w2 ⟨rfl, hb2⟩
  rw [hck]
  replace bel := bel.trans (hb2.mono bel.size)
  replace HC := HC.call hb2
  clear hb2 p1 q1 r1 u1 v1 x1 z1
  have p2 := HC.cell 0 _ rfl; have q2 := HC.cell 1 _ rfl; have r2 := HC.cell 2 _ rfl; have u2 := HC.free 0 (by simp); have v2 := HC.free 1 (by simp); have x2 := HC.free 2 (by simp); have z2 := HC.lt
  go_wp2_with fail
  refine (new_any _ _ _ _).mono ?_; rintro e w3 ⟨rfl, hb3⟩
  rw [hnew]
  replace bel := bel.trans (hb3.mono bel.size)
  replace HC := HC.call hb3
  clear hb3 p2 q2 r2 u2 v2 x2 z2 hck hnew
  go_wp2_with fail
  have HB := Reg.Has.at w3 w3.heap.size [.int .i64 m, .int .i64 0] 30 rfl
  have zB : w.heap.size < w3.heap.size := HC.lt
  have zB' : w.heap.size ≤ w3.heap.size := by omega
  replace HC := HC.alloc (.cells #[.int .i64 m, .int .i64 0] 30)
  replace bel : Below w.heap.size w (w3.alloc (.cells #[.int .i64 m, .int .i64 0] 30)) := (by repeat (first | (with_reducible exact Below.refl _ _) | (with_reducible assumption) | (with_reducible refine Below.drew ?_) | (with_reducible refine below_drewN ?_ _) | ((with_reducible refine bAlloc ?_ ?_ _); focus (first | omega | (simp; done) | (simp; omega))) | ((with_reducible refine bSet ?_ ?_ _); focus (first | omega | (simp; done) | (simp; omega))) | (refine Below.trans ?_ (Below.mono (by with_reducible assumption) (by first | omega | (simp; done) | (simp; omega))))))
  generalize hW : w3.alloc (.cells #[.int .i64 m, .int .i64 0] 30) = w4 at *
  clear hW
  generalize w3.heap.size = B at *
  clear w1 w2 w3
  go_loopw [6, 7, 8, 9] (fun nw rq rt i wr => ∃ (k : Nat) (now q t v a : Int), k ≤ L.length ∧ i = .int .i64 k ∧ nw = .int .i64 now ∧ rq = .int .i64 q ∧ rt = .int .i64 t ∧ Paid r s m k now q t v a ∧
      Reg.Has wr B [.int .i64 v, .int .i64 a] ∧ Reg.Has wr w.heap.size [.int .i64 r, .int .i64 s, .int .i64 m] ∧ Below w.heap.size w wr) (fun _ _ _ i _ => L.length - (intOf i).toNat)
  case atStart => exact ⟨0, 0, 0, 0, m, 0, by omega, rfl, rfl, rfl, rfl, paid_start r s m kc, HB, HC, bel⟩
  case round =>
    clear HB HC bel
    obtain ⟨k, now, q, t, v, a, hk, rfl, rfl, rfl, rfl, hP, HB, HC, bel⟩ := hrel
    have hPn := hP.nk
    have zW : B < wr.heap.size := HB.lt
    have hc6 : m ≤ 1048576 := kc.2.2.2.2.2
    have hc5 : 0 ≤ m := kc.2.2.2.2.1
    have hPa := hP.a0
    have hPan := hP.an
    by_cases hlt : k < L.length
    · obtain ⟨bl, off, rfl, hbl, hcl⟩ := hcells (by intro e; rw [e] at hlt; simp at hlt)
      obtain ⟨hc0, hc1⟩ := hcl k L[k] (List.getElem?_eq_getElem hlt)
      generalize L[k] = x at hc0 hc1
      obtain ⟨retry, more⟩ := x
      have hd0 : wr.cell? ⟨bl, off + k * 2, none⟩ = some (.bool retry) := (bel.cell (p := ⟨bl, off + k * 2, none⟩) hbl).trans hc0
      have hd1 : wr.cell? ⟨bl, off + k * 2 + 1, none⟩ = some (.int .i64 more) := (bel.cell (p := ⟨bl, off + k * 2 + 1, none⟩) hbl).trans hc1
      have hblr : bl < wr.heap.size := Nat.lt_of_lt_of_le hbl bel.size
      clear hc0 hc1
      have hp := pick_bd more 30 (by omega)
      have hk' : k < 100 := by omega
      have pb := HB.cell 0 _ rfl; have qb := HB.cell 1 _ rfl; have ub := HB.free 0 (by simp); have vb := HB.free 1 (by simp); have zb := HB.lt
      have pc := HC.cell 0 _ rfl; have qc := HC.cell 1 _ rfl; have rc := HC.cell 2 _ rfl; have uc := HC.free 0 (by simp); have vc := HC.free 1 (by simp); have xc := HC.free 2 (by simp); have zc := HC.lt
      go_wp2_with fail
      refine (pick_any more 30 _ (by omega)).mono ?_; rintro e w1 ⟨rfl, rfl⟩
      generalize pick more 30 = p at hp ⊢
      have kb := paid_ok hP hk' hp
      obtain ⟨hp0, hp1⟩ := hp
      cases retry with
      | true =>
        by_cases hr : 1000 ≤ asH s m v a (now + p)
        · have kk : rtOK r s m v a (now + p) := ⟨kc, kb, hr⟩
          have e1 : rtH r s m v a (now + p) = asH s m v a (now + p) - 1000 := if_pos kk
          have e2 : rtA r s m v a (now + p) = now + p := by have h : rtA r s m v a (now + p) = asA a (now + p) := if_pos kk; rw [h]; unfold asA; split <;> omega
          have e3 : rtE r s m v a (now + p) = 0 := if_pos kk
          have hP' := paid_retry kc hP hk' ⟨hp0, hp1⟩ hr
          have ht := paid_test kc hP' (by omega)
          obtain ⟨t1, t2, t3, t4, t5⟩ := ht
          have hv0 := hP'.v0
          have hvm := hP'.vm
          have ht0 := hP.t0
          have htk := hP.tk
          clear kk kb hr
          generalize asH s m v a (now + p) - 1000 = v' at *
          go_wp2_with fail
          refine (may'_any _ _ _ _ _ _ _).mono ?_; rintro e w5 ⟨rfl, hb5⟩
          rw [e3]
          have HW := (Reg.Has.at wr wr.heap.size [.int .i64 v, .int .i64 a] 30 rfl).call hb5
          replace HB := (HB.alloc _).call hb5
          replace HC := (HC.alloc _).call hb5
          replace bel : Below w.heap.size w w5 := by have := bel.size; exact (by repeat (first | (with_reducible exact Below.refl _ _) | (with_reducible assumption) | (with_reducible refine Below.drew ?_) | (with_reducible refine below_drewN ?_ _) | ((with_reducible refine bAlloc ?_ ?_ _); focus (first | omega | (simp; done) | (simp; omega))) | ((with_reducible refine bSet ?_ ?_ _); focus (first | omega | (simp; done) | (simp; omega))) | (refine Below.trans ?_ (Below.mono (by with_reducible assumption) (by first | omega | (simp; done) | (simp; omega))))))
          clear hb5 pb qb ub vb zb pc qc rc uc vc xc zc hd0 hd1
          have pb := HB.cell 0 _ rfl; have qb := HB.cell 1 _ rfl; have ub := HB.free 0 (by simp); have vb := HB.free 1 (by simp); have zb := HB.lt
          have pc := HC.cell 0 _ rfl; have qc := HC.cell 1 _ rfl; have rc := HC.cell 2 _ rfl; have uc := HC.free 0 (by simp); have vc := HC.free 1 (by simp); have xc := HC.free 2 (by simp); have zc := HC.lt
          go_wp2_with fail
          refine (retry_any _ _ _ _ _ _ _).mono ?_; rintro e w6 ⟨rfl, hb6⟩
          rw [e1, e2, e3]
          replace HW := HW.call hb6
          replace HB := HB.call hb6
          replace HC := HC.call hb6
          replace bel := bel.trans (hb6.mono bel.size)
          clear hb6 pb qb ub vb zb pc qc rc uc vc xc zc e1 e2 e3
          have pb := HB.cell 0 _ rfl; have qb := HB.cell 1 _ rfl; have ub := HB.free 0 (by simp); have vb := HB.free 1 (by simp); have zb := HB.lt
          have pc := HC.cell 0 _ rfl; have qc := HC.cell 1 _ rfl; have rc := HC.cell 2 _ rfl; have uc := HC.free 0 (by simp); have vc := HC.free 1 (by simp); have xc := HC.free 2 (by simp); have zc := HC.lt
          go_wp2_with fail
          go_roundw
          case rel =>
            refine ⟨k + 1, now + p, q, t + 1, v', now + p, by omega, by go_num, rfl, rfl, rfl, hP', ?_, ?_, ?_⟩
            · have H8 := (HB.put 0 (.int .i64 v')).put 1 (.int .i64 (now + p))
              simp only [List.set_cons_zero, List.set_cons_succ] at H8
              exact H8
            · exact (HC.other (a := ⟨B, 0, none⟩) (by simp; omega) _).other (a := ⟨B, 1, none⟩) (by simp; omega) _
            · exact (bel.setCell (p := ⟨B, 0, none⟩) zB' _).setCell (p := ⟨B, 1, none⟩) zB' _
          case measure => simp [intOf]; omega
        · have kk : ¬ rtOK r s m v a (now + p) := fun h => hr h.2.2
          have e1 : rtH r s m v a (now + p) = v := if_neg kk
          have e2 : rtA r s m v a (now + p) = a := if_neg kk
          have e3 : rtE r s m v a (now + p) = 9 := by unfold rtE; rw [if_neg kk, if_pos ⟨kc, kb⟩]
          have e4 : atH r s m v a (now + p) = asH s m v a (now + p) := if_pos ⟨kc, kb⟩
          have hP' := paid_full hP ⟨hp0, hp1⟩
          have ht := paid_test kc hP' (by omega)
          obtain ⟨t1, t2, t3, t4, t5⟩ := ht
          have hv0 := hP'.v0
          have hvm := hP'.vm
          have ht0 := hP.t0
          have htk := hP.tk
          clear kk kb
          generalize asH s m v a (now + p) = v' at *
          have hr' : v' < 1000 := by omega
          clear hr
          go_wp2_with fail
          refine (may'_any _ _ _ _ _ _ _).mono ?_; rintro e w5 ⟨rfl, hb5⟩
          rw [e3]
          have HW := (Reg.Has.at wr wr.heap.size [.int .i64 v, .int .i64 a] 30 rfl).call hb5
          replace HB := (HB.alloc _).call hb5
          replace HC := (HC.alloc _).call hb5
          replace bel : Below w.heap.size w w5 := by have := bel.size; exact (by repeat (first | (with_reducible exact Below.refl _ _) | (with_reducible assumption) | (with_reducible refine Below.drew ?_) | (with_reducible refine below_drewN ?_ _) | ((with_reducible refine bAlloc ?_ ?_ _); focus (first | omega | (simp; done) | (simp; omega))) | ((with_reducible refine bSet ?_ ?_ _); focus (first | omega | (simp; done) | (simp; omega))) | (refine Below.trans ?_ (Below.mono (by with_reducible assumption) (by first | omega | (simp; done) | (simp; omega))))))
          clear hb5 pb qb ub vb zb pc qc rc uc vc xc zc hd0 hd1
          have pb := HB.cell 0 _ rfl; have qb := HB.cell 1 _ rfl; have ub := HB.free 0 (by simp); have vb := HB.free 1 (by simp); have zb := HB.lt
          have pc := HC.cell 0 _ rfl; have qc := HC.cell 1 _ rfl; have rc := HC.cell 2 _ rfl; have uc := HC.free 0 (by simp); have vc := HC.free 1 (by simp); have xc := HC.free 2 (by simp); have zc := HC.lt
          go_wp2_with fail
          refine (retry_any _ _ _ _ _ _ _).mono ?_; rintro e w6 ⟨rfl, hb6⟩
          rw [e1, e2, e3]
          replace HW := HW.call hb6
          replace HB := HB.call hb6
          replace HC := HC.call hb6
          replace bel := bel.trans (hb6.mono bel.size)
          clear hb6 pb qb ub vb zb pc qc rc uc vc xc zc e1 e2 e3
          have pb := HB.cell 0 _ rfl; have qb := HB.cell 1 _ rfl; have ub := HB.free 0 (by simp); have vb := HB.free 1 (by simp); have zb := HB.lt
          have pc := HC.cell 0 _ rfl; have qc := HC.cell 1 _ rfl; have rc := HC.cell 2 _ rfl; have uc := HC.free 0 (by simp); have vc := HC.free 1 (by simp); have xc := HC.free 2 (by simp); have zc := HC.lt
          have pw := HW.cell 0 _ rfl; have qw := HW.cell 1 _ rfl; have uw := HW.free 0 (by simp); have vw := HW.free 1 (by simp); have zw := HW.lt
          go_wp2_with fail
          refine (at_any _ _ _ _ _ _ _).mono ?_; rintro e w7 ⟨rfl, hb7⟩
          rw [e4]
          have HB6 := (HB.put 0 (.int .i64 v)).put 1 (.int .i64 a)
          simp only [List.set_cons_zero, List.set_cons_succ] at HB6
          replace HB := HB6.call hb7
          replace HC := ((HC.other (a := ⟨B, 0, none⟩) (by simp; omega) _).other (a := ⟨B, 1, none⟩) (by simp; omega) _).call hb7
          replace bel := ((bel.setCell (p := ⟨B, 0, none⟩) zB' _).setCell (p := ⟨B, 1, none⟩) zB' _).trans (hb7.mono (by simpa using bel.size))
          clear hb7 pb qb ub vb zb pc qc rc uc vc xc zc pw qw uw vw zw e4 HW HB6
          have pb := HB.cell 0 _ rfl; have qb := HB.cell 1 _ rfl; have ub := HB.free 0 (by simp); have vb := HB.free 1 (by simp); have zb := HB.lt
          have pc := HC.cell 0 _ rfl; have qc := HC.cell 1 _ rfl; have rc := HC.cell 2 _ rfl; have uc := HC.free 0 (by simp); have vc := HC.free 1 (by simp); have xc := HC.free 2 (by simp); have zc := HC.lt
          have hfld := field_have
          go_wp2_with fail
          go_roundw
          case rel =>
            refine ⟨k + 1, now + p, q, t, v, a, by omega, by go_num, rfl, rfl, rfl, hP', HB, HC, bel⟩
          case measure => simp [intOf]; omega
      | false =>
        have e1 : rqH r s m v a (now + p) = min m (asH s m v a (now + p) + r) := if_pos ⟨kc, kb⟩
        have e2 : atA r s m v a (now + p) = now + p := by have h : atA r s m v a (now + p) = asA a (now + p) := if_pos ⟨kc, kb⟩; rw [h]; unfold asA; split <;> omega
        have e3 : mayE r s m v a (now + p) = 0 := may_ok kc kb
        have hP' := paid_request kc hP hk' ⟨hp0, hp1⟩
        have ht := paid_test kc hP' (by omega)
        obtain ⟨t1, t2, t3, t4, t5⟩ := ht
        have hv0 := hP'.v0
        have hvm := hP'.vm
        have ht0 := hP.t0
        have htk := hP.tk
        have hq0 := hP.q0
        have hqk := hP.qk
        clear kb
        generalize min m (asH s m v a (now + p) + r) = v' at *
        go_wp2_with fail
        refine (request_any _ _ _ _ _ _ _).mono ?_; rintro e w5 ⟨rfl, hb5⟩
        rw [e1, e2, e3]
        replace HB := (HB.alloc _).call hb5
        replace HC := (HC.alloc _).call hb5
        replace bel : Below w.heap.size w w5 := by have := bel.size; exact (by repeat (first | (with_reducible exact Below.refl _ _) | (with_reducible assumption) | (with_reducible refine Below.drew ?_) | (with_reducible refine below_drewN ?_ _) | ((with_reducible refine bAlloc ?_ ?_ _); focus (first | omega | (simp; done) | (simp; omega))) | ((with_reducible refine bSet ?_ ?_ _); focus (first | omega | (simp; done) | (simp; omega))) | (refine Below.trans ?_ (Below.mono (by with_reducible assumption) (by first | omega | (simp; done) | (simp; omega))))))
        clear hb5 pb qb ub vb zb pc qc rc uc vc xc zc hd0 hd1 e1 e2 e3
        have pb := HB.cell 0 _ rfl; have qb := HB.cell 1 _ rfl; have ub := HB.free 0 (by simp); have vb := HB.free 1 (by simp); have zb := HB.lt
        have pc := HC.cell 0 _ rfl; have qc := HC.cell 1 _ rfl; have rc := HC.cell 2 _ rfl; have uc := HC.free 0 (by simp); have vc := HC.free 1 (by simp); have xc := HC.free 2 (by simp); have zc := HC.lt
        go_wp2_with fail
        all_goals try (exfalso; omega)
        go_roundw
        case rel =>
          refine ⟨k + 1, now + p, q + 1, t, v', now + p, by omega, by go_num, rfl, rfl, rfl, hP', ?_, ?_, ?_⟩
          · have H8 := (HB.put 0 (.int .i64 v')).put 1 (.int .i64 (now + p))
            simp only [List.set_cons_zero, List.set_cons_succ] at H8
            exact H8
          · exact (HC.other (a := ⟨B, 0, none⟩) (by simp; omega) _).other (a := ⟨B, 1, none⟩) (by simp; omega) _
          · exact (bel.setCell (p := ⟨B, 0, none⟩) zB' _).setCell (p := ⟨B, 1, none⟩) zB' _
        case measure => simp [intOf]; omega
    · go_wp2_with fail
      go_ret
      exact ⟨rfl, bel⟩
end Go.Proofs.Ytdaankgaigjahaa.Bud
