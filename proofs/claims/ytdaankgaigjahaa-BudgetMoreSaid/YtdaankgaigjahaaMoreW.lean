/- The walk of the law BudgetMore: with more at first there is never less later, and no fewer retries; with nothing at all a retry is refused. -/
import Derived.Test.YtdaankgaigjahaaActs
import Derived.Test.YtdaankgaigjahaaWaitsW
import Derived.Deep.RegionHeld3
import Derived.Deep.DeepCutAuto
namespace Go.Proofs.Ytdaankgaigjahaa.Bud
open Go.RowKit

/-- Two budgets of one time, the first with no more than the second. -/
structure Two (m : Int) (k : Nat) (now x y a : Int) : Prop where
  x0 : 0 ≤ x
  xy : x ≤ y
  ym : y ≤ m
  a0 : 0 ≤ a
  an : a ≤ now
  nk : now ≤ 29 * k

theorem two_ok {r s m : Int} {k : Nat} {now x y a p : Int} (kc : okC r s m) (h : Two m k now x y a) (hk : k < 100) (hp : 0 ≤ p ∧ p < 30) :
    okB m x a (now + p) ∧ okB m y a (now + p) ∧ asH s m x a (now + p) ≤ asH s m y a (now + p) ∧ 0 ≤ asH s m x a (now + p) ∧ asH s m y a (now + p) ≤ m := by
  obtain ⟨h1, h2, h3, h4, h5, h6⟩ := h
  have kx : okB m x a (now + p) := ⟨by omega, by omega, h1, by omega, h4, by omega⟩
  have ky : okB m y a (now + p) := ⟨by omega, by omega, by omega, h3, h4, by omega⟩
  obtain ⟨p1, e1⟩ := asH_min kc kx (by omega)
  obtain ⟨p2, e2⟩ := asH_min kc ky (by omega)
  have b1 := asH_bd kc kx
  have b2 := asH_bd kc ky
  exact ⟨kx, ky, by omega, by omega, by omega⟩

set_option maxRecDepth 100000 in
set_option maxHeartbeats 4000000 in
theorem more_main (r s m a b : Int) (kc : okC r s m) (sv : Value) (L : List (Bool × Int)) (hL : L.length ≤ 100) (w : World) (hA : Acts w sv L) :
    Calls Try.prog 3 #[.agg #[.int .i64 r, .int .i64 s, .int .i64 m], .int .i64 a, .int .i64 b, sv] w fun e w' => e = .returned (.bool true) ∧ Below w.heap.size w w' := by
  obtain ⟨ao, cap, rfl, hcells⟩ := hA
  have hck := chk_yes kc
  have hc5 : 0 ≤ m := kc.2.2.2.2.1
  have hc6 : m ≤ 1048576 := kc.2.2.2.2.2
  have hpa := pick_bd a (m + 1) (by omega)
  have hpb := pick_bd b (m + 1) (by omega)
  go_enter Try.func3, Try.ntmps3
  go_wp2_with fail
  refine (lives_any _).mono ?_; rintro e w1 ⟨rfl, hb1⟩
  have bel : Below w.heap.size w w1 := (by repeat (first | (with_reducible exact Below.refl _ _) | (with_reducible assumption) | (with_reducible refine Below.drew ?_) | (with_reducible refine below_drewN ?_ _) | ((with_reducible refine bAlloc ?_ ?_ _); focus (first | omega | (simp; done) | (simp; omega))) | ((with_reducible refine bSet ?_ ?_ _); focus (first | omega | (simp; done) | (simp; omega))) | (refine Below.trans ?_ (Below.mono (by with_reducible assumption) (by first | omega | (simp; done) | (simp; omega))))))
  have HC := (Reg.Has.at w w.heap.size [.int .i64 r, .int .i64 s, .int .i64 m] 23 rfl).call hb1
  clear hb1
  have p1 := HC.cell 0 _ rfl; have q1 := HC.cell 1 _ rfl; have r1 := HC.cell 2 _ rfl; have u1 := HC.free 0 (by simp); have v1 := HC.free 1 (by simp); have x1 := HC.free 2 (by simp); have z1 := HC.lt
  go_wp2_with fail
  refine (check_any _ _ _ _).mono ?_; rintro e w2 ⟨rfl, hb2⟩
  rw [hck]
  replace bel := bel.trans (hb2.mono bel.size)
  replace HC := HC.call hb2
  clear hb2 p1 q1 r1 u1 v1 x1 z1 hck
  clear w1
  have p2 := HC.cell 0 _ rfl; have q2 := HC.cell 1 _ rfl; have r2 := HC.cell 2 _ rfl; have u2 := HC.free 0 (by simp); have v2 := HC.free 1 (by simp); have x2 := HC.free 2 (by simp); have z2 := HC.lt
  go_upto_region 5 with fail
  go_cut [9, 10] (fun x y wx => ∃ X Y : Nat, x = .pointer (some ⟨X, 0, none⟩) ∧ y = .pointer (some ⟨Y, 0, none⟩) ∧ X ≠ Y ∧ w.heap.size < X ∧ w.heap.size < Y ∧
    Reg.Has wx X [.int .i64 (pick a (m + 1)), .int .i64 0] ∧ Reg.Has wx Y [.int .i64 (pick b (m + 1)), .int .i64 0] ∧ Reg.Has wx w.heap.size [.int .i64 r, .int .i64 s, .int .i64 m] ∧ Below w.heap.size w wx)
  case first =>
    have hwr : IntKind.i64.wrap (m + 1) = m + 1 := IntWalk.i64_in _ (by omega)
    go_region_held3 (fun w' => w'.cell? ⟨w.heap.size, 2, none⟩ = some (.int .i64 m)) (go_keep) (first | (go_at_call 10; refine (pick_any _ _ _ (by omega)).mono ?_; rintro e w' ⟨rfl, rfl⟩))
    all_goals (go_wp2_with fail; go_meet; refine ⟨_, _, rfl, rfl, by omega, by omega, by omega, ?_⟩)
    all_goals first
      | (with_reducible exact ⟨((Reg.Has.at w2 w2.heap.size [.int .i64 (pick a (m + 1)), .int .i64 0] 30 rfl).alloc _).drew, (Reg.Has.at (w2.alloc _) (w2.heap.size + 1) [.int .i64 (pick b (m + 1)), .int .i64 0] 30 (World.size_alloc _ _).symm).drew, ((HC.alloc _).alloc _).drew, (by repeat (first | (with_reducible exact Below.refl _ _) | (with_reducible assumption) | (with_reducible refine Below.drew ?_) | (with_reducible refine below_drewN ?_ _) | ((with_reducible refine bAlloc ?_ ?_ _); focus (first | omega | (simp; done) | (simp; omega))) | ((with_reducible refine bSet ?_ ?_ _); focus (first | omega | (simp; done) | (simp; omega))) | (refine Below.trans ?_ (Below.mono (by with_reducible assumption) (by first | omega | (simp; done) | (simp; omega))))))⟩)
      | (with_reducible exact ⟨(Reg.Has.at (w2.alloc _) (w2.heap.size + 1) [.int .i64 (pick a (m + 1)), .int .i64 0] 30 (World.size_alloc _ _).symm).drew, ((Reg.Has.at w2 w2.heap.size [.int .i64 (pick b (m + 1)), .int .i64 0] 30 rfl).alloc _).drew, ((HC.alloc _).alloc _).drew, (by repeat (first | (with_reducible exact Below.refl _ _) | (with_reducible assumption) | (with_reducible refine Below.drew ?_) | (with_reducible refine below_drewN ?_ _) | ((with_reducible refine bAlloc ?_ ?_ _); focus (first | omega | (simp; done) | (simp; omega))) | ((with_reducible refine bSet ?_ ?_ _); focus (first | omega | (simp; done) | (simp; omega))) | (refine Below.trans ?_ (Below.mono (by with_reducible assumption) (by first | omega | (simp; done) | (simp; omega))))))⟩)
  case rest =>
    clear HC bel p2 q2 r2 u2 v2 x2 z2
    obtain ⟨X, Y, rfl, rfl, hXY, hX, hY, HX, HY, HC, bel⟩ := hcut
    clear w2
    generalize pick a (m + 1) = va at *
    generalize pick b (m + 1) = vb at *
    have pc := HC.cell 0 _ rfl; have qc := HC.cell 1 _ rfl; have rc := HC.cell 2 _ rfl; have uc := HC.free 0 (by simp); have vc := HC.free 1 (by simp); have xc := HC.free 2 (by simp); have zc := HC.lt
    have px := HX.cell 0 _ rfl; have qx := HX.cell 1 _ rfl; have ux := HX.free 0 (by simp); have vx := HX.free 1 (by simp); have zx := HX.lt
    have py := HY.cell 0 _ rfl; have qy := HY.cell 1 _ rfl; have uy := HY.free 0 (by simp); have vy := HY.free 1 (by simp); have zy := HY.lt
    have hpa1 := hpa.1
    have hpa2 := hpa.2
    have hpb1 := hpb.1
    have hpb2 := hpb.2
    go_upto_if 47 with fail
    go_cut [] (fun wx => ∃ x y : Int, 0 ≤ x ∧ x ≤ y ∧ y ≤ m ∧ Reg.Has wx X [.int .i64 x, .int .i64 0] ∧ Reg.Has wx Y [.int .i64 y, .int .i64 0] ∧ Reg.Has wx w.heap.size [.int .i64 r, .int .i64 s, .int .i64 m] ∧ Below w.heap.size w wx)
    case first =>
      go_wp2_with fail
      · go_meet
        have hlt : vb < va := by assumption
        have hX1 := (((HX.put 0 (.int .i64 vb)).put 1 (.int .i64 0)).other (a := ⟨Y, 0, none⟩) (by simp; omega) (.int .i64 va)).other (a := ⟨Y, 1, none⟩) (by simp; omega) (.int .i64 0)
        have hY1 := (((HY.other (a := ⟨X, 0, none⟩) (by simp; omega) (.int .i64 vb)).other (a := ⟨X, 1, none⟩) (by simp; omega) (.int .i64 0)).put 0 (.int .i64 va)).put 1 (.int .i64 0)
        have hC1 := (((HC.other (a := ⟨X, 0, none⟩) (by simp; omega) (.int .i64 vb)).other (a := ⟨X, 1, none⟩) (by simp; omega) (.int .i64 0)).other (a := ⟨Y, 0, none⟩) (by simp; omega) (.int .i64 va)).other (a := ⟨Y, 1, none⟩) (by simp; omega) (.int .i64 0)
        have hb1 := (((bel.setCell (p := ⟨X, 0, none⟩) (by simp; omega) (.int .i64 vb)).setCell (p := ⟨X, 1, none⟩) (by simp; omega) (.int .i64 0)).setCell (p := ⟨Y, 0, none⟩) (by simp; omega) (.int .i64 va)).setCell (p := ⟨Y, 1, none⟩) (by simp; omega) (.int .i64 0)
        simp only [List.set_cons_zero, List.set_cons_succ] at hX1 hY1
        exact ⟨vb, va, by omega, by omega, by omega, hX1, hY1, hC1, hb1⟩
      · go_meet
        exact ⟨va, vb, by omega, by omega, by omega, HX, HY, HC, bel⟩
    case rest =>
      clear HX HY HC bel pc qc rc uc vc xc zc px qx ux vx zx py qy uy vy zy hpa hpb hpa1 hpa2 hpb1 hpb2
      obtain ⟨x0, y0, k1, k2, k3, HX, HY, HC, bel⟩ := hcut
      go_wp2_with fail
      go_loopw [11, 12] (fun nw i wr => ∃ (k : Nat) (now x y a : Int), k ≤ L.length ∧ i = .int .i64 k ∧ nw = .int .i64 now ∧ Two m k now x y a ∧
        Reg.Has wr X [.int .i64 x, .int .i64 a] ∧ Reg.Has wr Y [.int .i64 y, .int .i64 a] ∧ Reg.Has wr w.heap.size [.int .i64 r, .int .i64 s, .int .i64 m] ∧ Below w.heap.size w wr) (fun _ i _ => L.length - (intOf i).toNat)
      case atStart => exact ⟨0, 0, x0, y0, 0, by omega, rfl, rfl, ⟨k1, k2, k3, by omega, by omega, by omega⟩, HX, HY, HC, bel⟩
      case round =>
        clear HX HY HC bel k1 k2 k3
        obtain ⟨k, now, x, y, a, hk, rfl, rfl, hT, HX, HY, HC, bel⟩ := hrel
        have hTn := hT.nk
        have hTa := hT.a0
        have hTan := hT.an
        have hTx := hT.x0
        have hTxy := hT.xy
        have hTym := hT.ym
        have zX : X < wr.heap.size := HX.lt
        have zY : Y < wr.heap.size := HY.lt
        by_cases hlt : k < L.length
        · obtain ⟨bl, off, rfl, hbl, hcl⟩ := hcells (by intro e; rw [e] at hlt; simp at hlt)
          obtain ⟨hc0, hc1⟩ := hcl k L[k] (List.getElem?_eq_getElem hlt)
          generalize L[k] = act at hc0 hc1
          obtain ⟨retry, more⟩ := act
          have hd0 : wr.cell? ⟨bl, off + k * 2, none⟩ = some (.bool retry) := (bel.cell (p := ⟨bl, off + k * 2, none⟩) hbl).trans hc0
          have hd1 : wr.cell? ⟨bl, off + k * 2 + 1, none⟩ = some (.int .i64 more) := (bel.cell (p := ⟨bl, off + k * 2 + 1, none⟩) hbl).trans hc1
          clear hc0 hc1
          have hp := pick_bd more 30 (by omega)
          have hk' : k < 100 := by omega
          have px := HX.cell 0 _ rfl; have qx := HX.cell 1 _ rfl; have ux := HX.free 0 (by simp); have vx := HX.free 1 (by simp); have zx := HX.lt
          have py := HY.cell 0 _ rfl; have qy := HY.cell 1 _ rfl; have uy := HY.free 0 (by simp); have vy := HY.free 1 (by simp); have zy := HY.lt
          have pc := HC.cell 0 _ rfl; have qc := HC.cell 1 _ rfl; have rc := HC.cell 2 _ rfl; have uc := HC.free 0 (by simp); have vc := HC.free 1 (by simp); have xc := HC.free 2 (by simp); have zc := HC.lt
          go_wp2_with fail
          refine (pick_any more 30 _ (by omega)).mono ?_; rintro e w1 ⟨rfl, rfl⟩
          generalize pick more 30 = p at hp ⊢
          obtain ⟨kx, ky, hmon, hlo, hhi⟩ := two_ok kc hT hk' hp
          obtain ⟨hp0, hp1⟩ := hp
          have eA : asA a (now + p) = now + p := by unfold asA; split <;> omega
          cases retry with
          | true =>
            by_cases hr : 1000 ≤ asH s m x a (now + p)
            · have kkx : rtOK r s m x a (now + p) := ⟨kc, kx, hr⟩
              have kky : rtOK r s m y a (now + p) := ⟨kc, ky, by omega⟩
              have e1 : rtH r s m x a (now + p) = asH s m x a (now + p) - 1000 := if_pos kkx
              have e2 : rtA r s m x a (now + p) = now + p := by have h : rtA r s m x a (now + p) = asA a (now + p) := if_pos kkx; rw [h, eA]
              have e3 : rtE r s m x a (now + p) = 0 := if_pos kkx
              have e4 : rtH r s m y a (now + p) = asH s m y a (now + p) - 1000 := if_pos kky
              have e5 : rtA r s m y a (now + p) = now + p := by have h : rtA r s m y a (now + p) = asA a (now + p) := if_pos kky; rw [h, eA]
              have e6 : rtE r s m y a (now + p) = 0 := if_pos kky
              clear kkx kky kx ky eA
              have hT' : Two m (k + 1) (now + p) (asH s m x a (now + p) - 1000) (asH s m y a (now + p) - 1000) (now + p) := ⟨by omega, by omega, by omega, by omega, by omega, by push_cast; omega⟩
              clear hmon hlo hhi hr
              generalize asH s m x a (now + p) - 1000 = x' at *
              generalize asH s m y a (now + p) - 1000 = y' at *
              go_wp2_with fail
              refine (retry_any _ _ _ _ _ _ _).mono ?_; rintro e w5 ⟨rfl, hb5⟩
              rw [e1, e2, e3]
              replace HX := HX.call hb5
              replace HY := HY.call hb5
              replace HC := HC.call hb5
              replace bel := bel.trans (hb5.mono bel.size)
              clear hb5 px qx ux vx zx py qy uy vy zy pc qc rc uc vc xc zc hd0 hd1 e1 e2 e3
              have px := HX.cell 0 _ rfl; have qx := HX.cell 1 _ rfl; have ux := HX.free 0 (by simp); have vx := HX.free 1 (by simp); have zx := HX.lt
              have py := HY.cell 0 _ rfl; have qy := HY.cell 1 _ rfl; have uy := HY.free 0 (by simp); have vy := HY.free 1 (by simp); have zy := HY.lt
              have pc := HC.cell 0 _ rfl; have qc := HC.cell 1 _ rfl; have rc := HC.cell 2 _ rfl; have uc := HC.free 0 (by simp); have vc := HC.free 1 (by simp); have xc := HC.free 2 (by simp); have zc := HC.lt
              go_wp2_with fail
              refine (retry_any _ _ _ _ _ _ _).mono ?_; rintro e w6 ⟨rfl, hb6⟩
              rw [e4, e5, e6]
              have HU := (Reg.Has.at w5 w5.heap.size [.int .i64 x', .int .i64 (now + p)] 30 rfl).call hb6
              replace HX := (HX.alloc _).call hb6
              replace HY := (HY.alloc _).call hb6
              replace HC := (HC.alloc _).call hb6
              replace bel : Below w.heap.size w w6 := by have := bel.size; exact (by repeat (first | (with_reducible exact Below.refl _ _) | (with_reducible assumption) | (with_reducible refine Below.drew ?_) | (with_reducible refine below_drewN ?_ _) | ((with_reducible refine bAlloc ?_ ?_ _); focus (first | omega | (simp; done) | (simp; omega))) | ((with_reducible refine bSet ?_ ?_ _); focus (first | omega | (simp; done) | (simp; omega))) | (refine Below.trans ?_ (Below.mono (by with_reducible assumption) (by first | omega | (simp; done) | (simp; omega))))))
              have zU : w5.heap.size < w6.heap.size := HU.lt
              have zX5 : X < w5.heap.size := zx
              have zY5 : Y < w5.heap.size := zy
              clear hb6 px qx ux vx zx py qy uy vy zy pc qc rc uc vc xc zc e4 e5 e6
              have px := HX.cell 0 _ rfl; have qx := HX.cell 1 _ rfl; have ux := HX.free 0 (by simp); have vx := HX.free 1 (by simp); have zx := HX.lt
              have py := HY.cell 0 _ rfl; have qy := HY.cell 1 _ rfl; have uy := HY.free 0 (by simp); have vy := HY.free 1 (by simp); have zy := HY.lt
              have pc := HC.cell 0 _ rfl; have qc := HC.cell 1 _ rfl; have rc := HC.cell 2 _ rfl; have uc := HC.free 0 (by simp); have vc := HC.free 1 (by simp); have xc := HC.free 2 (by simp); have zc := HC.lt
              have pu := HU.cell 0 _ rfl; have qu := HU.cell 1 _ rfl; have uu := HU.free 0 (by simp); have vu := HU.free 1 (by simp); have zu := HU.lt
              go_wp2_with fail
              have HV := Reg.Has.at w6 w6.heap.size [.int .i64 y', .int .i64 (now + p)] 30 rfl
              replace HX := HX.alloc (.cells #[.int .i64 y', .int .i64 (now + p)] 30)
              replace HY := HY.alloc (.cells #[.int .i64 y', .int .i64 (now + p)] 30)
              replace HC := HC.alloc (.cells #[.int .i64 y', .int .i64 (now + p)] 30)
              replace HU := HU.alloc (.cells #[.int .i64 y', .int .i64 (now + p)] 30)
              have zX6 : X < w6.heap.size := zx
              have zY6 : Y < w6.heap.size := zy
              have zU6 : w5.heap.size < w6.heap.size := zu
              replace bel : Below w.heap.size w (w6.alloc (.cells #[.int .i64 y', .int .i64 (now + p)] 30)) := by have := bel.size; exact (by repeat (first | (with_reducible exact Below.refl _ _) | (with_reducible assumption) | (with_reducible refine Below.drew ?_) | (with_reducible refine below_drewN ?_ _) | ((with_reducible refine bAlloc ?_ ?_ _); focus (first | omega | (simp; done) | (simp; omega))) | ((with_reducible refine bSet ?_ ?_ _); focus (first | omega | (simp; done) | (simp; omega))) | (refine Below.trans ?_ (Below.mono (by with_reducible assumption) (by first | omega | (simp; done) | (simp; omega))))))
              generalize hW7 : w6.alloc (.cells #[.int .i64 y', .int .i64 (now + p)] 30) = w7 at *
              clear hW7 px qx ux vx zx py qy uy vy zy pc qc rc uc vc xc zc pu qu uu vu zu
              generalize w5.heap.size = U at *
              generalize w6.heap.size = V at *
              have px := HX.cell 0 _ rfl; have qx := HX.cell 1 _ rfl; have ux := HX.free 0 (by simp); have vx := HX.free 1 (by simp); have zx := HX.lt
              have py := HY.cell 0 _ rfl; have qy := HY.cell 1 _ rfl; have uy := HY.free 0 (by simp); have vy := HY.free 1 (by simp); have zy := HY.lt
              have pu := HU.cell 0 _ rfl; have qu := HU.cell 1 _ rfl; have uu := HU.free 0 (by simp); have vu := HU.free 1 (by simp); have zu := HU.lt
              have pv := HV.cell 0 _ rfl; have qv := HV.cell 1 _ rfl; have uv := HV.free 0 (by simp); have vv := HV.free 1 (by simp); have zv := HV.lt
              go_region
              go_wp2_with fail
              go_roundw
              case rel =>
                have hX1 := (((HX.put 0 (.int .i64 x')).put 1 (.int .i64 (now + p))).other (a := ⟨Y, 0, none⟩) (by simp; omega) (.int .i64 y')).other (a := ⟨Y, 1, none⟩) (by simp; omega) (.int .i64 (now + p))
                have hY1 := (((HY.other (a := ⟨X, 0, none⟩) (by simp; omega) (.int .i64 x')).other (a := ⟨X, 1, none⟩) (by simp; omega) (.int .i64 (now + p))).put 0 (.int .i64 y')).put 1 (.int .i64 (now + p))
                have hC1 := (((HC.other (a := ⟨X, 0, none⟩) (by simp; omega) (.int .i64 x')).other (a := ⟨X, 1, none⟩) (by simp; omega) (.int .i64 (now + p))).other (a := ⟨Y, 0, none⟩) (by simp; omega) (.int .i64 y')).other (a := ⟨Y, 1, none⟩) (by simp; omega) (.int .i64 (now + p))
                have hb1 := (((bel.setCell (p := ⟨X, 0, none⟩) (by simp; omega) (.int .i64 x')).setCell (p := ⟨X, 1, none⟩) (by simp; omega) (.int .i64 (now + p))).setCell (p := ⟨Y, 0, none⟩) (by simp; omega) (.int .i64 y')).setCell (p := ⟨Y, 1, none⟩) (by simp; omega) (.int .i64 (now + p))
                simp only [List.set_cons_zero, List.set_cons_succ] at hX1 hY1
                refine ⟨k + 1, now + p, x', y', now + p, by omega, by go_num, rfl, hT', ?_, ?_, ?_, ?_⟩
                · exact hX1.drew
                · exact hY1.drew
                · exact hC1.drew
                · exact hb1.drew
              case measure => simp [intOf]; omega
            · have kkx : ¬ rtOK r s m x a (now + p) := fun h => hr h.2.2
              have e3 : rtE r s m x a (now + p) = 9 := by unfold rtE; rw [if_neg kkx, if_pos ⟨kc, kx⟩]
              clear kkx kx ky eA hmon hlo hhi hr
              have hT' : Two m (k + 1) (now + p) x y a := ⟨by omega, by omega, by omega, by omega, by omega, by push_cast; omega⟩
              go_wp2_with fail
              refine (retry_any _ _ _ _ _ _ _).mono ?_; rintro e w5 ⟨rfl, hb5⟩
              rw [e3]
              generalize rtH r s m x a (now + p) = x' at *
              generalize rtA r s m x a (now + p) = a' at *
              replace HX := (HX.call hb5).alloc (.cells #[.int .i64 x', .int .i64 a'] 30)
              replace HY := (HY.call hb5).alloc (.cells #[.int .i64 x', .int .i64 a'] 30)
              replace HC := (HC.call hb5).alloc (.cells #[.int .i64 x', .int .i64 a'] 30)
              replace bel : Below w.heap.size w (w5.alloc (.cells #[.int .i64 x', .int .i64 a'] 30)) := by have := bel.size; have := hb5.size; exact (by repeat (first | (with_reducible exact Below.refl _ _) | (with_reducible assumption) | (with_reducible refine Below.drew ?_) | (with_reducible refine below_drewN ?_ _) | ((with_reducible refine bAlloc ?_ ?_ _); focus (first | omega | (simp; done) | (simp; omega))) | ((with_reducible refine bSet ?_ ?_ _); focus (first | omega | (simp; done) | (simp; omega))) | (refine Below.trans ?_ (Below.mono (by with_reducible assumption) (by first | omega | (simp; done) | (simp; omega))))))
              clear hb5 px qx ux vx zx py qy uy vy zy pc qc rc uc vc xc zc hd0 hd1 e3
              go_wp2_with fail
              go_roundw
              case rel => exact ⟨k + 1, now + p, x, y, a, by omega, by go_num, rfl, hT', HX, HY, HC, bel⟩
              case measure => simp [intOf]; omega
          | false =>
            have e1 : rqH r s m x a (now + p) = min m (asH s m x a (now + p) + r) := if_pos ⟨kc, kx⟩
            have e2 : atA r s m x a (now + p) = now + p := by have h : atA r s m x a (now + p) = asA a (now + p) := if_pos ⟨kc, kx⟩; rw [h, eA]
            have e3 : mayE r s m x a (now + p) = 0 := may_ok kc kx
            have e4 : rqH r s m y a (now + p) = min m (asH s m y a (now + p) + r) := if_pos ⟨kc, ky⟩
            have e5 : atA r s m y a (now + p) = now + p := by have h : atA r s m y a (now + p) = asA a (now + p) := if_pos ⟨kc, ky⟩; rw [h, eA]
            have e6 : mayE r s m y a (now + p) = 0 := may_ok kc ky
            have hr0 : 0 ≤ r := kc.1
            have hT' : Two m (k + 1) (now + p) (min m (asH s m x a (now + p) + r)) (min m (asH s m y a (now + p) + r)) (now + p) := ⟨by omega, by omega, by omega, by omega, by omega, by push_cast; omega⟩
            have hle := hT'.xy
            clear kx ky eA hmon hlo hhi
            generalize min m (asH s m x a (now + p) + r) = x' at *
            generalize min m (asH s m y a (now + p) + r) = y' at *
            go_wp2_with fail
            refine (request_any _ _ _ _ _ _ _).mono ?_; rintro e w5 ⟨rfl, hb5⟩
            rw [e1, e2, e3]
            replace HX := HX.call hb5
            replace HY := HY.call hb5
            replace HC := HC.call hb5
            replace bel := bel.trans (hb5.mono bel.size)
            clear hb5 px qx ux vx zx py qy uy vy zy pc qc rc uc vc xc zc hd0 hd1 e1 e2 e3
            have px := HX.cell 0 _ rfl; have qx := HX.cell 1 _ rfl; have ux := HX.free 0 (by simp); have vx := HX.free 1 (by simp); have zx := HX.lt
            have py := HY.cell 0 _ rfl; have qy := HY.cell 1 _ rfl; have uy := HY.free 0 (by simp); have vy := HY.free 1 (by simp); have zy := HY.lt
            have pc := HC.cell 0 _ rfl; have qc := HC.cell 1 _ rfl; have rc := HC.cell 2 _ rfl; have uc := HC.free 0 (by simp); have vc := HC.free 1 (by simp); have xc := HC.free 2 (by simp); have zc := HC.lt
            go_wp2_with fail
            refine (request_any _ _ _ _ _ _ _).mono ?_; rintro e w6 ⟨rfl, hb6⟩
            rw [e4, e5, e6]
            have HX5 := (HX.put 0 (.int .i64 x')).put 1 (.int .i64 (now + p))
            simp only [List.set_cons_zero, List.set_cons_succ] at HX5
            replace HX := HX5.call hb6
            replace HY := ((HY.other (a := ⟨X, 0, none⟩) (by simp; omega) _).other (a := ⟨X, 1, none⟩) (by simp; omega) _).call hb6
            replace HC := ((HC.other (a := ⟨X, 0, none⟩) (by simp; omega) _).other (a := ⟨X, 1, none⟩) (by simp; omega) _).call hb6
            replace bel := ((bel.setCell (p := ⟨X, 0, none⟩) (by simp; omega) _).setCell (p := ⟨X, 1, none⟩) (by simp; omega) _).trans (hb6.mono (by simpa using bel.size))
            clear hb6 HX5 px qx ux vx zx py qy uy vy zy pc qc rc uc vc xc zc e4 e5 e6
            have px := HX.cell 0 _ rfl; have qx := HX.cell 1 _ rfl; have ux := HX.free 0 (by simp); have vx := HX.free 1 (by simp); have zx := HX.lt
            have py := HY.cell 0 _ rfl; have qy := HY.cell 1 _ rfl; have uy := HY.free 0 (by simp); have vy := HY.free 1 (by simp); have zy := HY.lt
            have pc := HC.cell 0 _ rfl; have qc := HC.cell 1 _ rfl; have rc := HC.cell 2 _ rfl; have uc := HC.free 0 (by simp); have vc := HC.free 1 (by simp); have xc := HC.free 2 (by simp); have zc := HC.lt
            go_wp2_with fail
            all_goals try (exfalso; omega)
            go_roundw
            case rel =>
              refine ⟨k + 1, now + p, x', y', now + p, by omega, by go_num, rfl, hT', ?_, ?_, ?_, ?_⟩
              · exact (HX.other (a := ⟨Y, 0, none⟩) (by simp; omega) _).other (a := ⟨Y, 1, none⟩) (by simp; omega) _
              · have H8 := (HY.put 0 (.int .i64 y')).put 1 (.int .i64 (now + p))
                simp only [List.set_cons_zero, List.set_cons_succ] at H8
                exact H8
              · exact (HC.other (a := ⟨Y, 0, none⟩) (by simp; omega) _).other (a := ⟨Y, 1, none⟩) (by simp; omega) _
              · exact (bel.setCell (p := ⟨Y, 0, none⟩) (by simp; omega) _).setCell (p := ⟨Y, 1, none⟩) (by simp; omega) _
            case measure => simp [intOf]; omega
        · have kz : okC 0 0 0 := by decide
          have kbz : okB 0 0 0 now := ⟨by omega, by omega, by omega, by omega, by omega, by omega⟩
          have hz0 : asH 0 0 0 0 now = 0 := by unfold asH; split <;> simp
          have e3 : rtE 0 0 0 0 0 now = 9 := by
            unfold rtE
            rw [if_neg (fun h => by have := h.2.2; omega), if_pos ⟨kz, kbz⟩]
          clear kz kbz hz0
          have px := HX.cell 0 _ rfl; have qx := HX.cell 1 _ rfl; have ux := HX.free 0 (by simp); have vx := HX.free 1 (by simp); have zx := HX.lt
          have py := HY.cell 0 _ rfl; have qy := HY.cell 1 _ rfl; have uy := HY.free 0 (by simp); have vy := HY.free 1 (by simp); have zy := HY.lt
          go_wp2_with fail
          refine (retry_any _ _ _ _ _ _ _).mono ?_; rintro e w5 ⟨rfl, hb5⟩
          rw [e3]
          generalize rtH 0 0 0 0 0 now = x' at *
          generalize rtA 0 0 0 0 0 now = a' at *
          replace HX := (HX.call hb5).alloc (.cells #[.int .i64 x', .int .i64 a'] 30)
          replace HY := (HY.call hb5).alloc (.cells #[.int .i64 x', .int .i64 a'] 30)
          replace bel : Below w.heap.size w (w5.alloc (.cells #[.int .i64 x', .int .i64 a'] 30)) := by have := bel.size; have := hb5.size; exact (by repeat (first | (with_reducible exact Below.refl _ _) | (with_reducible assumption) | (with_reducible refine Below.drew ?_) | (with_reducible refine below_drewN ?_ _) | ((with_reducible refine bAlloc ?_ ?_ _); focus (first | omega | (simp; done) | (simp; omega))) | ((with_reducible refine bSet ?_ ?_ _); focus (first | omega | (simp; done) | (simp; omega))) | (refine Below.trans ?_ (Below.mono (by with_reducible assumption) (by first | omega | (simp; done) | (simp; omega))))))
          clear hb5 px qx ux vx zx py qy uy vy zy e3
          have px := HX.cell 0 _ rfl; have qx := HX.cell 1 _ rfl; have ux := HX.free 0 (by simp); have vx := HX.free 1 (by simp); have zx := HX.lt
          have py := HY.cell 0 _ rfl; have qy := HY.cell 1 _ rfl; have uy := HY.free 0 (by simp); have vy := HY.free 1 (by simp); have zy := HY.lt
          go_wp2_with fail
          go_ret
          exact ⟨by simp [hTxy], bel⟩
end Go.Proofs.Ytdaankgaigjahaa.Bud
