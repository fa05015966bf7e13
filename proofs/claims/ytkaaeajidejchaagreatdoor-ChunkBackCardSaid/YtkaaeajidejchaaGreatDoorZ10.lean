/- Lemmas for the statement's proof, several texts in one: P19, T8, P26, T6, L1, Ix, Frame. -/
import Derived.Test.YtkaaeajidejchaaGreatDoorZ08
import Derived.OwnWalk
import Derived.Laws.CopyOwn
import Derived.Test.YtkaaeajidejchaaGreatDoorZ04
import Derived.Test.YtkaaeajidejchaaGreatDoorZ09
import Derived.Test.YtkaaeajidejchaaGreatDoorZ01
import Derived.Lib.AppendIntMem
import Derived.Lib.LaidTab
import Derived.LaidSub
import Derived.LaidLaws
import Derived.Lib.TrailingZeros
import Derived.ProofKit
import Derived.OpenShut
import Derived.Deep.SlicePairs
import Derived.SizedLaws
import Derived.Lib.SmallJoins
import Derived.ChangeSlices
import Derived.Test.YtkaaeajidejchaaGreatDoorRows
import Derived.WalkKit
import Derived.Below
import Derived.Carry
/- The decoder: Trailers (a copy of slices whose elements have two cells). -/
namespace Go.Proofs.YtkaaeajidejchaaGreatDoor.Sp
open Go.RowKit Sl

theorem run_copy_two {P : Program} (w : World) (dT sT ty elem : TypeId) (g n dCap : Nat) (a : Addr) (sCap : Nat) (cur : Array Value) (t : TypeId) (cs : List Value) (i : TypeInfo)
    (hu : P.underlying dT = some (.slice elem)) (hq : P.info? elem = some i) (hi : i.size = 2) (hg : w.heap[g]? = some (.cells cur t (0, 0))) (hcs : cs.length = n * 2)
    (hsrc : ∀ j v, cs[j]? = some v → w.cell? (a.add j) = some v) (hcur : cur.size = n * 2) (h1 : ∀ v ∈ cs, v.oneCell' = true) :
    (Builtin.copy_ #[dT, sT] ty #[.slice (some ⟨g, 0, none⟩) n dCap, .slice (some a) n sCap]).run P w = .ok (goInt n) (w.setRow g cs.toArray) := by
  have hl := run_loadCells_list (P := P) w a cs hsrc
  have hst := run_storeCells_at P g 0 t cs 0 cur w hg (by omega) h1
  have hd : cur.toList.drop (0 + 0 + cs.length) = [] := List.drop_of_length_le (by rw [Array.length_toList]; omega)
  rw [hd] at hst
  rw [hcs] at hl
  simp only [Nat.add_zero, List.take_zero, List.nil_append, List.append_nil] at hst
  simp [Builtin.copy_, run_underlying hu, Builtin.lenOf, Builtin.firstCells, sizeOf, typeInfo, hq, hi, hl, hst]
section
variable {P : Program} {w : World} {ops : Array Oper} {rest : List Oper} {o : Oper} {a : Act} {Q : Exit → Act → World → Prop}
theorem wpList_copy_two (hgd : o.guard = none) (x y : Operand) (dT sT elem : TypeId) (ho : o.op = .call { callee := .builtin .copy, args := #[x, y], argTypes := #[dT, sT] }) (g n dCap : Nat) (ad : Addr) (sCap : Nat) (cur : Array Value) (t : TypeId) (cs : List Value) (i : TypeInfo)
    (hu : P.underlying dT = some (.slice elem)) (hq : P.info? elem = some i) (hi : i.size = 2) (hx : a.eval x = .slice (some ⟨g, 0, none⟩) n dCap) (hy : a.eval y = .slice (some ad) n sCap) (hg : w.heap[g]? = some (.cells cur t (0, 0))) (hcs : cs.length = n * 2)
    (hsrc : ∀ j v, cs[j]? = some v → w.cell? (ad.add j) = some v) (hcur : cur.size = n * 2) (h1 : ∀ v ∈ cs, v.oneCell' = true)
    (h : wpList P ops Q rest (a.put o.dst (goInt n)) (w.setRow g cs.toArray)) : wpList P ops Q (o :: rest) a w := by
  refine wpList_plain hgd fun K hK => ?_
  have hrun := run_copy_two (P := P) w dT sT o.type elem g n dCap ad sCap cur t cs i hu hq hi hg hcs hsrc hcur h1
  unfold Oper.wp
  simp [execOp, ho, resolve, invoke, builtin, hx, hy, hrun, Result.andThen]
  exact hK _ _ h
theorem wpList_copy_none2 (hgd : o.guard = none) (x y : Operand) (dT sT elem : TypeId) (ho : o.op = .call { callee := .builtin .copy, args := #[x, y], argTypes := #[dT, sT] }) (g n dCap : Nat) (i : TypeInfo)
    (hu : P.underlying dT = some (.slice elem)) (hq : P.info? elem = some i) (hx : a.eval x = .slice (some ⟨g, 0, none⟩) n dCap) (hy : a.eval y = .slice none 0 0)
    (h : wpList P ops Q rest (a.put o.dst (goInt 0)) w) : wpList P ops Q (o :: rest) a w := by
  refine wpList_plain hgd fun K hK => ?_
  have hrun := run_copy_nil (P := P) w dT sT o.type elem ⟨g, 0, none⟩ n dCap hu (by rw [hq]; rfl)
  unfold Oper.wp
  simp [execOp, ho, resolve, invoke, builtin, hx, hy, hrun, Result.andThen]
  exact hK _ _ h
end

set_option maxRecDepth 100000 in
set_option maxHeartbeats 2000000 in
theorem trailers_any (w : World) (base b : Nat) (nx : Value) (d : Dec) (ln bd tr : Value) (h : DecAt w base b nx d ln bd tr) (hl : d.tr.length ≤ 1000000) :
    Calls Tryz.prog 20 #[.pointer (some ⟨b, 0, none⟩)] w fun e w' => ∃ v, e = .returned v ∧ Rd w' v d.tr.length 2 (fldV d.tr) ∧ Below w.heap.size w w' := by
  have HD := hide h
  have p9 := h.has.cell 9 _ rfl
  have hrd := Rd.own h.trs
  obtain ⟨ao, cap, htr, hcap, hnone, hlen, hcell⟩ := hrd
  (try simp only at p9)
  rw [htr] at p9
  obtain ⟨i, hi, hz, h1, h2⟩ := info_parts (P := Tryz.prog) (e := 50) (z := .agg #[.string ⟨#[]⟩, .string ⟨#[]⟩]) (size := 2) (bytes := 32) (by kernel_rfl)
  obtain ⟨n, hn⟩ : ∃ n, d.tr.length = n := ⟨_, rfl⟩
  rw [hn] at p9 hl
  have HN := Lib.hid hn
  have HI := Lib.hid hi
  have HZ := Lib.hid hz
  have H1 := Lib.hid h1
  have H2 := Lib.hid h2
  have HC := hide hcell
  have HNO := hide hnone
  have zb := h.has.lt
  clear h htr hn hi hz h1 h2 hcell hnone hlen
  go_enter Tryz.func20, Tryz.ntmps20
  go_upto_region 4 with (refine wpList_make_full _ rfl _ _ 41 rfl w.heap.size 50 i _ 2 Tryz.underlying41 HI.out HZ.out H1.out _ _ _ _ n rfl rfl rfl rfl (by rw [H2.out]; omega) (by unfold maxLen; omega) (Nat.le_refl _) ?_; intro w1 hown hgr)
  have hb1 : Below w.heap.size w w1 := (Below.refl _ _).grown hgr (Nat.le_refl _) (fun k h => by cases h)
  obtain ⟨cur, hg, hcs⟩ : ∃ cur : Array Value, w1.heap[w.heap.size]? = some (.cells cur 50 (0, 0)) ∧ cur.size = n * 2 := by
    rcases hown.2 with ⟨e, _⟩ | ⟨g, cp, cur, e, _, hg, _, _, hcs, _⟩
    · simp at e
    · injection e with e1 e2 e3
      injection e1 with e1
      injection e1 with e1
      subst e1
      subst e3
      exact ⟨cur, hg, hcs⟩
  have hD1 := (unhide HD).call hb1
  have q9 : w1.cell? ⟨b, 9, none⟩ = some (.slice ao n cap) := (hb1.cell (p := ⟨b, 9, none⟩) zb).trans p9
  have hglt : w.heap.size < w1.heap.size := by
    rcases Nat.lt_or_ge w.heap.size w1.heap.size with h | h
    · exact h
    · rw [Array.getElem?_eq_none h] at hg; cases hg
  have HB1 := hide hb1
  have HG := hide hg
  have HCS := Lib.hid hcs
  clear hown hgr p9 zb hb1 hg hcs hD1
  cases ao with
  | none =>
    obtain rfl : cap = 0 := unhide HNO rfl
    obtain rfl : n = 0 := by have := HN.out; omega
    have htr0 : d.tr = [] := List.eq_nil_of_length_eq_zero HN.out
    go_wp2_with (refine wpList_copy_none2 rfl _ _ _ _ 50 rfl w.heap.size 0 0 i Tryz.underlying41 HI.out rfl rfl ?_)
    refine bodyPost_ret (results_tmp rfl _ _ _) rfl ⟨_, rfl, ?_, unhide HB1⟩
    exact ⟨_, 0, rfl, Nat.le_refl _, fun h => (by cases h), rfl, fun h => absurd rfl h⟩
  | some ad =>
    have hsrc : ∀ j v, (fldV d.tr)[j]? = some v → w1.cell? (ad.add j) = some v := by
      intro j v hv
      obtain ⟨b2, off, e, hlt, hc⟩ := unhide HC (by intro e; rw [e] at hv; simp at hv)
      cases e
      rw [Addr.add_mid]
      exact ((unhide HB1).cell (p := ⟨b2, off + j, none⟩) hlt).trans (hc j v hv)
    have h1c : ∀ v ∈ fldV d.tr, v.oneCell' = true := by
      intro v hv
      simp only [fldV, List.mem_flatMap] at hv
      obtain ⟨f, _, hv⟩ := hv
      simp at hv
      rcases hv with rfl | rfl <;> rfl
    have hlen : (fldV d.tr).length = n * 2 := by rw [fldV_len, HN.out]
    have HSR := hide hsrc
    have H1C := hide h1c
    have HLE := Lib.hid hlen
    have HCC := HC
    clear hsrc h1c hlen HC
    go_wp2_with (refine wpList_copy_two rfl _ _ _ _ 50 rfl w.heap.size n n ad cap cur 50 (fldV d.tr) i Tryz.underlying41 HI.out H1.out rfl rfl (unhide HG) HLE.out (unhide HSR) HCS.out (unhide H1C) ?_)
    refine bodyPost_ret (results_tmp rfl _ _ _) rfl ⟨_, rfl, ?_, below_setRow (unhide HB1) (Nat.le_refl _) _⟩
    rw [HN.out]
    refine ⟨some ⟨w.heap.size, 0, none⟩, n, rfl, Nat.le_refl _, fun h => (by cases h), HLE.out, fun _ => ⟨w.heap.size, 0, rfl, ?_, fun j u hu => ?_⟩⟩
    · simpa [World.setRow] using hglt
    · rw [Nat.zero_add, cell_of_row _ w.heap.size j (fldV d.tr).toArray 50 (0, 0) (setRow_heap w1 w.heap.size cur _ 50 _ (unhide HG))]
      simpa using hu
end Go.Proofs.YtkaaeajidejchaaGreatDoor.Sp

/- kit: Same of texts, Pick, Times. -/
namespace Go.Proofs.YtkaaeajidejchaaGreatDoor.Sp
open Go.RowKit Sl


/-- Pick at 30. -/
def pick (n m : Int) : Int := if m < 1 then 0 else if n.tmod m < 0 then n.tmod m + m else n.tmod m
theorem pick_bd (n m : Int) (hm : 1 ≤ m) : 0 ≤ pick n m ∧ pick n m < m := by
  unfold pick
  rw [if_neg (by omega)]
  have h1 := Int.tmod_lt_of_pos n (show (0 : Int) < m by omega)
  have h2 : -m < n.tmod m := by
    have := Int.tmod_lt_of_pos (-n) (show (0 : Int) < m by omega)
    rw [Int.neg_tmod] at this
    omega
  split <;> omega

theorem pick_any (n m : Int) (w : World) (hm : m ≤ 1048577) :
    Calls Tryz.prog 17 #[.int .i64 n, .int .i64 m] w fun e w' => e = .returned (.int .i64 (pick n m)) ∧ w = w' := by
  by_cases h : m < 1
  · have e : pick n m = 0 := if_pos h
    rw [e]
    go_enter Tryz.func17, Tryz.ntmps17
    go_wp2
    go_ret
    exact ⟨rfl, rfl⟩
  · have h1 := Int.tmod_lt_of_pos n (show (0 : Int) < m by omega)
    have h2 : -m < n.tmod m := by
      have := Int.tmod_lt_of_pos (-n) (show (0 : Int) < m by omega)
      rw [Int.neg_tmod] at this
      omega
    have hm1 : 1 ≤ m := by omega
    by_cases hneg : n.tmod m < 0
    · have e : pick n m = n.tmod m + m := by unfold pick; rw [if_neg h, if_pos hneg]
      rw [e]
      have hn : ¬ 0 ≤ n := fun h0 => by have := Int.tmod_nonneg m h0; omega
      go_enter Tryz.func17, Tryz.ntmps17
      go_wp2
      go_ret
      exact ⟨rfl, rfl⟩
    · have e : pick n m = n.tmod m := by unfold pick; rw [if_neg h, if_neg hneg]
      rw [e]
      by_cases hn : 0 ≤ n
      · rw [Int.tmod_eq_emod_of_nonneg hn] at hneg h1 h2 ⊢
        go_enter Tryz.func17, Tryz.ntmps17
        go_wp2
        go_ret
        exact ⟨rfl, rfl⟩
      · go_enter Tryz.func17, Tryz.ntmps17
        go_wp2
        go_ret
        exact ⟨rfl, rfl⟩

/-- Times at a text of one byte. -/
def strOf : Value → ByteArray
  | .string s => s
  | _ => ⟨#[]⟩
theorem rep_app (c : UInt8) (a b : Nat) {x y : ByteArray} (hx : x.data.toList = List.replicate a c) (hy : y.data.toList = List.replicate b c) : (x ++ y).data.toList = List.replicate (a + b) c := by
  rw [app_data, hx, hy, List.replicate_append_replicate]
set_option maxRecDepth 100000 in
set_option maxHeartbeats 1000000 in
theorem times_any (c : UInt8) (N : Nat) (hN : N ≤ 1000) (w : World) :
    Calls Tryz.prog 16 #[.string ⟨#[c]⟩, .int .i64 N] w fun e w' => e = .returned (.string (ofL (List.replicate N c))) ∧ w = w' := by
  go_enter Tryz.func16, Tryz.ntmps16
  go_wp2_with fail
  go_loop [0, 1, 5] (fun s n out => ∃ (a p m : Nat) (x y : ByteArray), n = .int .i64 m ∧ s = .string x ∧ out = .string y ∧ x.data.toList = List.replicate p c ∧ y.data.toList = List.replicate a c ∧ a + p * m = N ∧ p ≤ 2 * N + 1 ∧ 1 ≤ p) (fun _ n _ => (intOf n).toNat)
  case atStart => exact ⟨0, 1, N, _, _, rfl, rfl, rfl, rfl, rfl, by omega, by omega, by omega⟩
  case round =>
    obtain ⟨a, p, m, x, y, rfl, rfl, rfl, hx, hy, hs, hp, hp1⟩ := hrel
    have HX := Lib.hid hx
    have HY := Lib.hid hy
    have zx : x.size = p := by rw [size_list hx]; simp
    have zy : y.size = a := by rw [size_list hy]; simp
    have hpm : 0 < m → p ≤ N := fun h => by
      have : p * 1 ≤ p * m := Nat.mul_le_mul_left p h
      omega
    have ham : a ≤ N := by omega
    have hmN : m ≤ N := by
      have : 1 * m ≤ p * m := Nat.mul_le_mul_right m hp1
      omega
    have HS := Lib.hid hs
    clear hx hy hs
    rcases Nat.lt_or_ge 0 m with h0 | h0
    rotate_left
    · have hfin : y = ofL (List.replicate N c) := by
        have := HS.out
        rw [show m = 0 by omega, Nat.mul_zero, Nat.add_zero] at this
        rw [← this]
        exact ba_eq HY.out
      have HF := Lib.hid hfin
      have hb : decide ((0 : Int) < (m : Int)) = false := by simp; omega
      clear hfin
      go_wp2_with fail
      go_ret
      exact ⟨by rw [HF.out] <;> rfl, rfl⟩
    · have hpN := hpm h0
      have hb : decide ((0 : Int) < (m : Int)) = true := by simp; omega
      obtain ⟨j, hj | hj⟩ : ∃ j, m = 2 * j ∨ m = 2 * j + 1 := ⟨m / 2, by omega⟩
      · have hmj : (m : Int) = 2 * (j : Int) := by omega
        have hd : Int.tdiv (m : Int) 2 = (j : Int) := by rw [Int.tdiv_eq_ediv_of_nonneg (by omega)]; omega
        have hr : Int.tmod (m : Int) 2 = 0 := by rw [Int.tmod_eq_emod_of_nonneg (by omega)]; omega
        have hjN : j ≤ 1000 := by omega
        have HJ := Lib.hid hj
        have HB := Lib.hid hmj
        clear hj hmj
        go_wp2_with fail
        go_round
        case rel => exact ⟨a, p + p, j, x ++ x, y, by go_num, rfl, rfl, rep_app c p p HX.out HX.out, HY.out, by have := HS.out; rw [HJ.out] at this; rw [Nat.add_mul]; rw [show p * (2 * j) = p * j + p * j by rw [Nat.mul_left_comm, Nat.two_mul]] at this; omega, by omega, by omega⟩
        case measure => have := HJ.out; simp [intOf]; omega
      · have hmj : (m : Int) = 2 * (j : Int) + 1 := by omega
        have hd : Int.tdiv (m : Int) 2 = (j : Int) := by rw [Int.tdiv_eq_ediv_of_nonneg (by omega)]; omega
        have hr : Int.tmod (m : Int) 2 = 1 := by rw [Int.tmod_eq_emod_of_nonneg (by omega)]; omega
        have hjN : j ≤ 1000 := by omega
        have HJ := Lib.hid hj
        have HB := Lib.hid hmj
        clear hj hmj
        go_wp2_with fail
        go_round
        case rel => exact ⟨a + p, p + p, j, x ++ x, y ++ x, by go_num, rfl, rfl, rep_app c p p HX.out HX.out, rep_app c a p HY.out HX.out, by have := HS.out; rw [HJ.out] at this; rw [Nat.add_mul]; rw [Nat.mul_add, show p * (2 * j) = p * j + p * j by rw [Nat.mul_left_comm, Nat.two_mul]] at this; omega, by omega, by omega⟩
        case measure => have := HJ.out; simp [intOf]; omega

end Go.Proofs.YtkaaeajidejchaaGreatDoor.Sp

/- The walk of the law ChunkBack. -/
namespace Go.Proofs.YtkaaeajidejchaaGreatDoor.Sp
open Go.RowKit Sl

theorem sum_small : ∀ f ∈ [sumF], f.1.size ≤ 200 := by
  intro f hf
  obtain rfl := List.mem_singleton.1 hf
  decide
theorem sum_few : Few [sumF] := ⟨by decide, fun f hf => by
  obtain rfl := List.mem_singleton.1 hf
  exact ⟨by decide, by decide⟩⟩
theorem Rd.has1 {w : World} {b : Nat} {f : Fld} (h : Reg.Has w b [.string f.1, .string f.2]) : Rd w (.slice (some ⟨b, 0, none⟩) 1 1) 1 2 (fldV [f]) :=
  ⟨some ⟨b, 0, none⟩, 1, rfl, Nat.le_refl _, (fun h => by cases h), rfl, fun _ => ⟨b, 0, rfl, h.lt, fun i u hu => by rw [Nat.zero_add]; exact h.cell i u hu⟩⟩

set_option maxRecDepth 100000 in
set_option maxHeartbeats 8000000 in
theorem cback_any (body : ByteArray) (size : Int) (hs0 : -9223372036854775808 ≤ size) (hs1 : size ≤ 9223372036854775807) (v : Value) (A : List Int) (hA : A.length ≤ 9223372036854775807) (behind : ByteArray) (w : World) (hv : Rd w v A.length 1 (intV A)) (hM : MaxV w) (hR : Bru w) :
    Calls Tryz.prog 8 #[.string body, .int .i64 size, v, .string behind] w fun e w' => e = .returned (.bool true) ∧ Below w.heap.size w w' := by
  obtain ⟨ao, cap, rfl⟩ := hv.form
  have HV := hide hv
  have HM := hide hM
  have HR := hide hR
  have c0 := hide (lives5_any _ hM)
  clear hv hM hR
  go_enter Tryz.func8, Tryz.ntmps8
  go_upto_region 3 with (go_at_call 9; refine (unhide c0).mono ?_; rintro e w1 ⟨rfl, hb1⟩)
  have HB1 := hide hb1
  clear hb1 c0
  by_cases h200 : 200 < body.size
  · have h1 : decide ((200 : Int) < body.size) = true := decide_eq_true (by omega)
    go_wp2_with fail
    go_ret
    exact ⟨rfl, unhide HB1⟩
  have h1 : decide ((200 : Int) < body.size) = false := decide_eq_false (by omega)
  by_cases h201 : 200 < behind.size
  · have h2 : decide ((200 : Int) < behind.size) = true := decide_eq_true (by omega)
    go_wp2_with fail
    go_ret
    exact ⟨rfl, unhide HB1⟩
  have h2 : decide ((200 : Int) < behind.size) = false := decide_eq_false (by omega)
  by_cases h20 : 20 < A.length
  · have h3 : decide ((20 : Int) < A.length) = true := decide_eq_true (by omega)
    go_wp2_with fail
    go_ret
    exact ⟨rfl, unhide HB1⟩
  have h3 : decide ((20 : Int) < A.length) = false := decide_eq_false (by omega)
  have hbl : body.data.toList.length = body.size := by simp
  obtain ⟨d2, hf, hd2, hd3, hd4, hd5⟩ := back_feed body.data.toList size (by omega) behind.data.toList
  have hsml := encL_small body.data.toList size (by omega)
  have EN := encode_any body size _ [sumF] (by omega) hs0 hs1 sum_few _ (Rd.has1 (f := sumF) (Reg.Has.new w1 [.string ⟨#[83, 117, 109]⟩, .string ⟨#[49]⟩] 50)) ((unhide HR).below ((unhide HB1).trans (((Below.refl w1.heap.size w1).alloc (Nat.le_refl _) _).mono (unhide HB1).size)))
  unfold EncO at EN
  rw [sum_chk, if_pos rfl, show errI true = 0 from rfl] at EN
  obtain ⟨S, hS⟩ : ∃ S, ofL (encL body.data.toList size [sumF]) = S := ⟨_, rfl⟩
  have hSd : S.data.toList = encL body.data.toList size [sumF] := by rw [← hS]; rfl
  have hSs : S.size = (encL body.data.toList size [sumF]).length := size_list hSd
  rw [hS] at EN
  rw [← hSs, ← hSd] at hf
  rw [← hSs] at hsml
  obtain ⟨all, hall⟩ : ∃ all, S ++ behind = all := ⟨_, rfl⟩
  have had : all.data.toList = S.data.toList ++ behind.data.toList := by rw [← hall, app_data]
  have hsl : all.data.toList.length = all.size := by simp
  have has : all.size = S.size + behind.size := by rw [← hall]; simp
  rw [← had] at hf
  replace EN := hide EN
  have HS := Lib.hid hS
  have HAS := Lib.hid has
  have hasz : all.size ≤ 3200 := by omega
  have hsa : S.size ≤ all.size := by omega
  have HN := Lib.hid hf
  have D2 := Lib.hid hd2
  have D3 := Lib.hid hd3
  have D4 := Lib.hid hd4
  have D5 := Lib.hid hd5
  clear hS hSd hSs had has hf hd2 hd3 hd4 hd5 hbl
  go_upto_region 8 with (go_at_call 22; refine (unhide EN).mono ?_; rintro e w2 ⟨rfl, hb2⟩)
  have HB2 := hide (((unhide HB1).trans (((Below.refl w1.heap.size w1).alloc (Nat.le_refl _) (.cells #[.string ⟨#[83, 117, 109]⟩, .string ⟨#[49]⟩] 50)).mono (unhide HB1).size)).trans (hb2.mono (by have := (unhide HB1).size; simp; omega)))
  clear hb2 EN
  go_upto_region 9 with (first | (go_at_call 25; refine (roomy_any _).mono ?_; rintro e w3 ⟨rfl, hb3⟩) | (go_at_call 11; refine (new_any _ _ _ _ _).mono ?_; rintro e w4 ⟨rfl, h4, hb4⟩))
  have HB3 := hide ((unhide HB2).trans (hb3.mono (unhide HB2).size))
  have HB4 := hide ((unhide HB3).trans (hb4.mono (unhide HB3).size))
  have hle : w.heap.size ≤ w3.heap.size := (unhide HB3).size
  have hMl : 5 < w3.heap.size := Nat.lt_of_lt_of_le (unhide HM).lt hle
  have HO4 := hide h4
  clear h4 hb3 hb4
  generalize w3.heap.size = b2 at *
  have t0 : ¬ (9223372036854775807 : Int) < S.size + behind.size := by omega
  go_wp2_with fail
  go_loopw [13, 14] (fun ate i wr => ∃ (j a r : Nat) (o : Dec) (ln bdv tr : Value), i = .int .i64 j ∧ ate = .int .i64 a ∧ a ≤ all.size ∧ DecAt wr b2 (b2 + 1) (nextV (b2 + 1) o.st) o ln bdv tr ∧ Okd (j * 3300) o ∧ Below w.heap.size w wr ∧ o.B = 1000 ∧ feedS sizeF flF o (all.data.toList.drop a) = (d2, r) ∧ a + r = S.size ∧ j ≤ A.length ∧ stopS o = false) (fun _ i _ => A.length + 1 - (intOf i).toNat)
  case atStart => exact ⟨0, 0, S.size, newD 200 1000 30 1000, _, _, _, rfl, rfl, Nat.zero_le _, unhide HO4, newD_ok _ _ _ _, unhide HB4, rfl, HN.out, by omega, Nat.zero_le _, rfl⟩
  case round =>
    clear HO4 HB4 HB3 HB2 HN
    obtain ⟨j, a, r, o, ln, bdv, tr, rfl, rfl, haa, hO, hok, hbel, hBo, hI, har, hj, hst⟩ := hrel
    have g1 : decide ((j : Int) ≤ A.length) = true := decide_eq_true (by omega)
    by_cases hlt : j < A.length
    · have g3 : decide ((j : Int) < A.length) = true := decide_eq_true (by omega)
      obtain ⟨ab, aoff, rfl, hab, hac0⟩ := int_cell (unhide HV) j hlt
      have hac : wr.cell? ⟨ab, aoff + j, none⟩ = some (.int .i64 A[j]) := (hbel.cell (p := ⟨ab, aoff + j, none⟩) hab).trans hac0
      obtain ⟨kk, hq, hak, hkk⟩ : ∃ kk : Nat, pick A[j] ((all.size : Int) + 1 - a) + (a : Int) = kk ∧ a ≤ kk ∧ kk ≤ all.size := by
        have h1 := pick_bd A[j] ((all.size : Int) + 1 - a) (by omega)
        exact ⟨(pick A[j] ((all.size : Int) + 1 - a) + (a : Int)).toNat, by omega, by omega, by omega⟩
      have hpr : 0 ≤ pick A[j] ((all.size : Int) + 1 - a) ∧ pick A[j] ((all.size : Int) + 1 - a) ≤ all.size := by omega
      obtain ⟨pv, hpv⟩ : ∃ pv, pick A[j] ((all.size : Int) + 1 - a) = pv := ⟨_, rfl⟩
      have CP := pick_any A[j] ((all.size : Int) + 1 - a) wr (by omega)
      rw [hpv] at hq hpr CP
      replace CP := hide CP
      clear hpv hac0
      go_upto_region 17 with (go_at_call 17; refine (unhide CP).mono ?_; rintro e w5 ⟨rfl, rfl⟩)
      (try rw [hq])
      clear CP hq hpr
      obtain ⟨⟨o2, m⟩, hx⟩ : ∃ q, feedS sizeF flF o ((all.data.toList.drop a).take (kk - a)) = q := ⟨_, rfl⟩
      obtain ⟨hm, hgo, r2, hI2, hr2⟩ := cut_step hak hI hx (by rw [hsl]; exact hkk)
      have hxd : (all.extract a kk).data.toList = (all.data.toList.drop a).take (kk - a) := Lib.extract_data all a kk
      have hxs : (all.extract a kk).size = kk - a := by rw [ByteArray.size_extract]; omega
      have hok2 := feedS_ok (fl := flF) sizeF_stat ((all.data.toList.drop a).take (kk - a)) _ o hok
      have hlim := (feedS_lim (sz := sizeF) (fl := flF) ((all.data.toList.drop a).take (kk - a)) o).1
      have hlen : ((all.data.toList.drop a).take (kk - a)).length = kk - a := by rw [List.length_take, List.length_drop, hsl]; omega
      rw [hx] at hok2 hlim
      simp only at hok2 hlim
      rw [hlen] at hok2
      rw [← hxd] at hx
      have FE := hide (feedN_any wr (b2 + 1) o ln bdv tr (all.extract a kk) _ b2 hO hok (by omega) (by have := hO.has.lt; omega) (by rw [hBo]; decide) ((unhide HM).below hbel) (by omega) o2 m hx)
      have hb0 : o2.bad = 0 := way_good hI2 D2.out
      have f1 : ((o2.bad : Int) != 0) = false := by rw [hb0]; rfl
      have HDO := hide hO
      have HBE := hide hbel
      have HOK2 := hide hok2
      have HLIM := Lib.hid (hlim.trans hBo)
      have HI2 := Lib.hid hI2
      have HGO := hide hgo
      have HB0 := Lib.hid hb0
      have t1 : decide ((m : Int) < 0) = false := decide_eq_false (by omega)
      have t2 : decide (((kk : Int) - a) < m) = false := decide_eq_false (by omega)
      clear hO hok hbel hBo hI hx hxd hxs hok2 hlim hlen hI2 hgo hst hb0
      go_upto_region 18 with (go_at_call 13; refine (unhide FE).mono ?_; rintro e w5 ⟨rfl, ln5, bd5, tr5, h5, m5⟩)
      have HO5 := hide h5
      have HB5 := hide ((unhide HBE).trans (m5.below (unhide HDO) (by omega) (unhide HBE).size))
      have DN := hide (done_any w5 b2 (b2 + 1) _ o2 ln5 bd5 tr5 h5)
      clear h5 m5 FE HDO HBE
      cases hd2 : o2.done
      · rw [hd2] at DN
        have HS2 := Lib.hid (show stopS o2 = false by unfold stopS; rw [HB0.out, hd2]; rfl)
        clear hd2
        go_wp2_with (go_at_call 12; refine (unhide DN).mono ?_; rintro e w6 ⟨rfl, rfl⟩)
        go_roundw
        case rel => exact ⟨j + 1, a + m, r2, o2, ln5, bd5, tr5, by go_num, by go_num, by omega, unhide HO5, okd_le (unhide HOK2) (by omega), unhide HB5, HLIM.out, HI2.out, by omega, by omega, HS2.out⟩
        case measure => simp [intOf]; omega
      · rw [hd2] at DN
        obtain ⟨rfl, rfl⟩ := cut_end HI2.out (.inl (by unfold stopS; rw [hd2]; simp))
        have hq : (a : Int) + m = S.size := by omega
        have hbq : ofL o2.body = body := by rw [D4.out]; rfl
        have BD := body_any w5 b2 (b2 + 1) _ o2 ln5 bd5 tr5 (unhide HO5)
        rw [hbq] at BD
        replace BD := hide BD
        have DD := done_any w5 b2 (b2 + 1) _ o2 ln5 bd5 tr5 (unhide HO5)
        rw [hd2] at DD
        replace DD := hide DD
        have TD := trailers_any w5 b2 (b2 + 1) _ o2 ln5 bd5 tr5 (unhide HO5) (by rw [D5.out]; decide)
        rw [D5.out] at TD
        replace TD := hide TD
        have HF5 := unhide HB5
        clear hbq hd2 HGO HI2 har
        go_wp2_with (first | (go_at_call 12; first | (have q := firstDone; refine (unhide DD).mono ?_; rintro e w6 ⟨rfl, rfl⟩) | (refine (unhide DN).mono ?_; rintro e w6 ⟨rfl, rfl⟩; have firstDone := True.intro)) | (go_at_call 14; refine (unhide BD).mono ?_; rintro e w6 ⟨rfl, rfl⟩) | (go_at_call 20; refine (unhide TD).mono ?_; rintro e w6 ⟨vD, rfl, hrD, hb6⟩; have HRD := hide hrD; have HB6 := hide hb6; have SM := hide (rsame_refl vD _ [sumF] (by decide) sum_small _ (hrD.alloc (.cells #[.string ⟨#[83, 117, 109]⟩, .string ⟨#[49]⟩] 50)) (Rd.has1 (f := sumF) (Reg.Has.new w6 [.string ⟨#[83, 117, 109]⟩, .string ⟨#[49]⟩] 50))); clear hrD hb6) | (go_at_call 19; refine (unhide SM).mono ?_; rintro e w7 ⟨rfl, hb7⟩))
        go_ret
        exact ⟨rfl, ((HF5.trans ((unhide HB6).mono HF5.size)).trans (((Below.refl w6.heap.size w6).alloc (Nat.le_refl _) _).mono (Nat.le_trans HF5.size (unhide HB6).size))).trans (hb7.mono (by have h8 := HF5.size; have h9 := (unhide HB6).size; simp; omega))⟩
    · have g3 : decide ((j : Int) < A.length) = false := decide_eq_false (by omega)
      have hkk : all.size ≤ all.size := Nat.le_refl _
      have hak : a ≤ all.size := haa
      go_upto_region 17 with fail
      obtain ⟨⟨o2, m⟩, hx⟩ : ∃ q, feedS sizeF flF o ((all.data.toList.drop a).take (all.size - a)) = q := ⟨_, rfl⟩
      obtain ⟨hm, hgo, r2, hI2, hr2⟩ := cut_step hak hI hx (by rw [hsl]; exact hkk)
      have hxd : (all.extract a all.size).data.toList = (all.data.toList.drop a).take (all.size - a) := Lib.extract_data all a all.size
      have hxs : (all.extract a all.size).size = all.size - a := by rw [ByteArray.size_extract]; omega
      have hok2 := feedS_ok (fl := flF) sizeF_stat ((all.data.toList.drop a).take (all.size - a)) _ o hok
      have hlim := (feedS_lim (sz := sizeF) (fl := flF) ((all.data.toList.drop a).take (all.size - a)) o).1
      have hlen : ((all.data.toList.drop a).take (all.size - a)).length = all.size - a := by rw [List.length_take, List.length_drop, hsl]; omega
      rw [hx] at hok2 hlim
      simp only at hok2 hlim
      rw [hlen] at hok2
      rw [← hxd] at hx
      have FE := hide (feedN_any wr (b2 + 1) o ln bdv tr (all.extract a all.size) _ b2 hO hok (by omega) (by have := hO.has.lt; omega) (by rw [hBo]; decide) ((unhide HM).below hbel) (by omega) o2 m hx)
      have hb0 : o2.bad = 0 := way_good hI2 D2.out
      have f1 : ((o2.bad : Int) != 0) = false := by rw [hb0]; rfl
      have HDO := hide hO
      have HBE := hide hbel
      have HOK2 := hide hok2
      have HLIM := Lib.hid (hlim.trans hBo)
      have HI2 := Lib.hid hI2
      have HGO := hide hgo
      have HB0 := Lib.hid hb0
      have t1 : decide ((m : Int) < 0) = false := decide_eq_false (by omega)
      have t2 : decide (((all.size : Int) - a) < m) = false := decide_eq_false (by omega)
      clear hO hok hbel hBo hI hx hxd hxs hok2 hlim hlen hI2 hgo hst hb0
      go_upto_region 18 with (go_at_call 13; refine (unhide FE).mono ?_; rintro e w5 ⟨rfl, ln5, bd5, tr5, h5, m5⟩)
      have HO5 := hide h5
      have HB5 := hide ((unhide HBE).trans (m5.below (unhide HDO) (by omega) (unhide HBE).size))
      have DN := hide (done_any w5 b2 (b2 + 1) _ o2 ln5 bd5 tr5 h5)
      clear h5 m5 FE HDO HBE
      cases hd2 : o2.done
      · rw [hd2] at DN
        have HS2 := Lib.hid (show stopS o2 = false by unfold stopS; rw [HB0.out, hd2]; rfl)
        have hend := unhide HGO HS2.out
        obtain ⟨rfl, rfl⟩ := cut_end HI2.out (.inr (by rw [hsl]; omega))
        rw [D3.out] at hd2
        cases hd2
      · rw [hd2] at DN
        obtain ⟨rfl, rfl⟩ := cut_end HI2.out (.inl (by unfold stopS; rw [hd2]; simp))
        have hq : (a : Int) + m = S.size := by omega
        have hbq : ofL o2.body = body := by rw [D4.out]; rfl
        have BD := body_any w5 b2 (b2 + 1) _ o2 ln5 bd5 tr5 (unhide HO5)
        rw [hbq] at BD
        replace BD := hide BD
        have DD := done_any w5 b2 (b2 + 1) _ o2 ln5 bd5 tr5 (unhide HO5)
        rw [hd2] at DD
        replace DD := hide DD
        have TD := trailers_any w5 b2 (b2 + 1) _ o2 ln5 bd5 tr5 (unhide HO5) (by rw [D5.out]; decide)
        rw [D5.out] at TD
        replace TD := hide TD
        have HF5 := unhide HB5
        clear hbq hd2 HGO HI2 har
        go_wp2_with (first | (go_at_call 12; first | (have q := firstDone; refine (unhide DD).mono ?_; rintro e w6 ⟨rfl, rfl⟩) | (refine (unhide DN).mono ?_; rintro e w6 ⟨rfl, rfl⟩; have firstDone := True.intro)) | (go_at_call 14; refine (unhide BD).mono ?_; rintro e w6 ⟨rfl, rfl⟩) | (go_at_call 20; refine (unhide TD).mono ?_; rintro e w6 ⟨vD, rfl, hrD, hb6⟩; have HRD := hide hrD; have HB6 := hide hb6; have SM := hide (rsame_refl vD _ [sumF] (by decide) sum_small _ (hrD.alloc (.cells #[.string ⟨#[83, 117, 109]⟩, .string ⟨#[49]⟩] 50)) (Rd.has1 (f := sumF) (Reg.Has.new w6 [.string ⟨#[83, 117, 109]⟩, .string ⟨#[49]⟩] 50))); clear hrD hb6) | (go_at_call 19; refine (unhide SM).mono ?_; rintro e w7 ⟨rfl, hb7⟩))
        go_ret
        exact ⟨rfl, ((HF5.trans ((unhide HB6).mono HF5.size)).trans (((Below.refl w6.heap.size w6).alloc (Nat.le_refl _) _).mono (Nat.le_trans HF5.size (unhide HB6).size))).trans (hb7.mono (by have h8 := HF5.size; have h9 := (unhide HB6).size; simp; omega))⟩
end Go.Proofs.YtkaaeajidejchaaGreatDoor.Sp

/- Plain: the digits of a number; strconv.Itoa of any number. -/
namespace Go.Proofs.YtkaaeajidejchaaGreatDoor.Sp
open Go.RowKit

def decB (u : Nat) : ByteArray := ⟨(Lib.decDigits u).toArray⟩
def itoaB (n : Int) : ByteArray := ⟨(Lib.itoa n).toArray⟩
def tenB : ByteArray := ⟨#[48, 49, 50, 51, 52, 53, 54, 55, 56, 57]⟩
theorem dec_small (u : Nat) (h : u < 10) : tenB.extract u (u + 1) = decB u := by
  have h1 : ∀ i, i < 10 → (tenB.extract i (i + 1)).data.toList = Lib.decDigits i := by decide +kernel
  exact ba_eq (h1 u h)
theorem dec_more (u : Nat) (h : 10 ≤ u) : decB u = decB (u / 10) ++ decB (u % 10) := by
  have e : Lib.decDigits u = Lib.decDigits (u / 10) ++ Lib.decDigits (u % 10) := by
    conv => lhs; rw [Lib.decDigits, dif_neg (by omega)]
    have e2 : Lib.decDigits (u % 10) = [UInt8.ofNat (48 + u % 10)] := by rw [Lib.decDigits, dif_pos (by omega)]
    rw [e2]
  have h2 : (decB (u / 10) ++ decB (u % 10)).data.toList = Lib.decDigits u := by rw [app_data, e]; rfl
  exact (ba_eq h2).symm
theorem decB_size (u : Nat) : (decB u).size ≤ u + 1 := by
  have h : ∀ n u, u ≤ n → (Lib.decDigits u).length ≤ u + 1 := by
    intro n
    induction n with
    | zero => intro u hu; obtain rfl : u = 0 := by omega
              decide +kernel
    | succ n ih =>
      intro u hu
      rw [Lib.decDigits]
      split
      · simp
      · have := ih (u / 10) (by omega)
        rw [List.length_append]; simp; omega
  have := h u u (Nat.le_refl _)
  rw [show (decB u).size = (Lib.decDigits u).length from size_list rfl]
  exact this
theorem decB_20 (u : Nat) (h : u < 10000000000000000000) : (decB u).size ≤ 19 := by
  have step : ∀ (k u : Nat), u < 10 ^ k → 0 < k → (Lib.decDigits u).length ≤ k := by
    intro k
    induction k with
    | zero => intro u h h0; omega
    | succ k ih =>
      intro u h _
      rw [Lib.decDigits]
      split
      · simp
      · rcases Nat.eq_zero_or_pos k with h0 | h0
        · subst h0; simp at h; omega
        · have := ih (u / 10) (by rw [Nat.pow_succ] at h; omega) h0
          rw [List.length_append]; simp; omega
  rw [show (decB u).size = (Lib.decDigits u).length from size_list rfl]
  exact step 19 u h (by omega)

theorem itoa_size (n : Int) (h0 : -9223372036854775808 ≤ n) (h1 : n ≤ 9223372036854775807) : (itoaB n).size ≤ 20 := by
  rw [show (itoaB n).size = (Lib.itoa n).length from size_list rfl]
  unfold Lib.itoa
  split
  · have := decB_20 n.natAbs (by omega)
    rw [show (decB n.natAbs).size = (Lib.decDigits n.natAbs).length from size_list rfl] at this
    simp; omega
  · have := decB_20 n.toNat (by omega)
    rw [show (decB n.toNat).size = (Lib.decDigits n.toNat).length from size_list rfl] at this
    omega
theorem itoa_neg (n : Int) (h : n < 0) : (⟨#[45]⟩ : ByteArray) ++ decB n.natAbs = itoaB n := by
  unfold itoaB Lib.itoa
  rw [if_pos h]
  have : ((⟨#[45]⟩ : ByteArray) ++ decB n.natAbs).data.toList = 45 :: Lib.decDigits n.natAbs := by rw [app_data]; rfl
  exact ba_eq this
theorem itoa_pos (n : Int) (h : 0 ≤ n) : decB n.toNat = itoaB n := by
  unfold itoaB Lib.itoa
  rw [if_neg (by omega)]; rfl

/-! ### the table of powers of ten -/
abbrev Pow10 (w : World) : Prop := Lib.TabIs Tryz.prog w "internal/strconv.uint64pow10" .u64 Lib.pow10Tab
theorem Pow10.below {w w' : World} (h : Pow10 w) (hb : Below w.heap.size w w') : Pow10 w' := by
  have hgn : Tryz.prog.globalNamed "internal/strconv.uint64pow10" = some 2 := by kernel_rfl
  unfold Pow10 Lib.TabIs World.var? at h ⊢
  rw [hgn] at h ⊢
  simp only [Option.bind_some] at h ⊢
  have hlt : 2 < w.heap.size := by
    rcases Nat.lt_or_ge 2 w.heap.size with h' | h'
    · exact h'
    · rw [Array.getElem?_eq_none h'] at h; cases h
  rw [hb.block 2 hlt]
  exact h
theorem itoa_any (n : Int) (h0 : -9223372036854775808 ≤ n) (h1 : n ≤ 9223372036854775807) (w : World) (ht : Pow10 w) : Calls Tryz.prog 86 #[.int .i64 n] w fun e w' => e = .returned (.string (itoaB n)) ∧ Below w.heap.size w w' := by
  refine (Tryz.strconv_Itoa n h0 h1 w ht).mono ?_
  rintro e w' ⟨rfl, k, os, rfl⟩
  exact ⟨rfl, Lib.below_grow _ w (Nat.le_refl _) k os⟩
end Go.Proofs.YtkaaeajidejchaaGreatDoor.Sp

/- What a row's listed variables give: the table of powers of ten; the table of trailing zeros. -/
namespace Go.Proofs.YtkaaeajidejchaaGreatDoor.Sp
open Go.ChangeShapes Go.WideShapes Go.ChangeAt Go.RowKit

def pow10Row : List (String × DataW Unit) := [("internal/strconv.uint64pow10", Lib.tabData .u64 Lib.pow10Tab)]
theorem pow10_of {W : World} {l : List (String × DataW Unit)} (hl : (l.filter fun x => x.1 == "internal/strconv.uint64pow10") = pow10Row) (h : laidMet Tryz.prog l W) : Pow10 W := by
  have h2 := laidMet.filter (fun x => x.1 == "internal/strconv.uint64pow10") h
  rw [hl] at h2
  exact Lib.tabIs_of_head (g := 2) (by kernel_rfl) (by kernel_rfl) Tryz.underlying130 Tryz.underlying62 (by kernel_rfl) (by kernel_rfl) h2
def bruTab : List Int := Lib.deBruijn64tab.map Int.ofNat
def bruRow : List (String × DataW Unit) := [("math/bits.deBruijn64tab", Lib.tabData .u8 bruTab)]
theorem bru_of {W : World} {l : List (String × DataW Unit)} (hl : (l.filter fun x => x.1 == "math/bits.deBruijn64tab") = bruRow) (h : laidMet Tryz.prog l W) : Bru W := by
  have h2 := laidMet.filter (fun x => x.1 == "math/bits.deBruijn64tab") h
  rw [hl] at h2
  have h3 : Lib.TabIs Tryz.prog W "math/bits.deBruijn64tab" .u8 bruTab := Lib.tabIs_of_head (g := 4) (by kernel_rfl) (by kernel_rfl) Tryz.underlying179 Tryz.underlying5 (by kernel_rfl) (by kernel_rfl) h2
  exact h3.cell (g := 4) (by kernel_rfl) 15 (by decide)
end Go.Proofs.YtkaaeajidejchaaGreatDoor.Sp

/- A slice of numbers that came in is opened. -/
namespace Go.Proofs.YtkaaeajidejchaaGreatDoor.Sp
open Go.ChangeShapes Go.WideShapes Go.ChangeAt Go.RowKit Go.Deep Sl Go.Joins

set_option maxRecDepth 100000 in
theorem ints_of {H : Type} {enc : TypeId × Value → H} {W : World} {b0 : Nat} {v : Value} {d : DataW H} {p : List MemPlace} (hv : Value.okWide Tryz.prog W .any b0 39 v)
    (h : DataW.Trod enc Tryz.prog W 0 (fun _ => true) true 39 v d p) :
    ∃ A : List Int, A.length ≤ 9223372036854775807 ∧ Rd W v A.length 1 (intV A) := by
  obtain ⟨ao, ln, cp, rfl⟩ := okWide_slice Tryz.underlying39 hv
  obtain ⟨fuel, hf⟩ := h
  have hf' : DataW.trod enc Tryz.prog W 0 (fun _ => true) true fuel 39 [.slice ao ln cp] = some (d, p) := hf
  rcases open_ints Tryz.underlying39 Tryz.underlying3 (by kernel_rfl) hf' with ⟨hcs, _⟩ | ⟨a, len, cap, zs, hcs, _, hlc, hm, hzl, hx, hi, _⟩
  · simp at hcs
    obtain ⟨rfl, rfl, rfl⟩ := hcs
    exact ⟨[], by simp, Rd.nil W 1⟩
  · simp at hcs
    obtain ⟨rfl, rfl, rfl⟩ := hcs
    simp only [if_true] at hzl
    have htl : (zs.take ln).length = ln := by rw [List.length_take]; omega
    refine ⟨zs.take ln, by rw [htl]; unfold maxLen at hm; omega, ?_⟩
    refine ⟨some a, cp, by rw [htl], by rw [htl]; exact hlc, (fun h => by cases h), by simp [intV], fun hne => ?_⟩
    have hpos : 0 < ln := by
      rcases Nat.eq_zero_or_pos ln with h0 | h0
      · subst h0; simp [intV] at hne
      · exact h0
    have h0 := hi 0 (by omega)
    obtain ⟨b, off, spot⟩ := a
    have hspot : spot = none := by simpa [Addr.add] using World.cell?_spot h0
    subst hspot
    refine ⟨b, off, rfl, by have := World.block_lt_of_cell? W _ h0; simpa [Addr.add] using this, fun i u hu => ?_⟩
    have hil : i < (zs.take ln).length := by
      have := (List.getElem?_eq_some_iff.1 hu).1
      simpa [intV] using this
    rw [intV_get _ i hil] at hu
    cases hu
    have hh := hi i (by omega)
    rw [Addr.add_mid] at hh
    have e : (zs.take ln)[i] = zs.getD i 0 := by rw [List.getElem_take, List.getD_eq_getElem?_getD, List.getElem?_eq_getElem (by omega)]; rfl
    rw [e]
    simpa using hh
end Go.Proofs.YtkaaeajidejchaaGreatDoor.Sp

/- The frame of a law's row: what a law leaves behind (it returns true, has made memory, and changed nothing that was there) is what the row asks. -/
namespace Go.Proofs.YtkaaeajidejchaaGreatDoor.Frame
open Go.ChangeShapes Go.WideShapes Go.ChangeAt Go.RowKit
variable {H : Type} {enc : TypeId × Value → H} {P : Program}

/-- What was read of the arguments reads so still. -/
theorem args_stay (hl : laidOutB P = true) {W W' : World} (hb : Below W.heap.size W W') : ∀ (ts : List TypeId) (vs : List Value) (ds : List (DataW H)) (ps : List MemPlace),
    (∀ t ∈ ts, P.readableRec t = true ∧ t < P.types.size) → DataW.TrodAll enc P W 0 (fun _ => true) true ts vs ds ps → (∀ x ∈ ps, x.block < W.heap.size) →
    DataW.TrodAll enc P W' 0 (fun b => decide (b < W.heap.size)) true ts vs ds ps
  | [], vs, ds, ps, _, h, _ => by
    obtain ⟨rfl, rfl, rfl⟩ := trodAll_nil h
    exact trodAll_mk0
  | t :: ts, vs, ds, ps, hts, h, hlt => by
    obtain ⟨v, vs', d, ds', p, q, rfl, rfl, rfl, h0, hr⟩ := trodAll_cons h
    refine trodAll_cons_mk ?_ (args_stay hl hb ts vs' ds' q (fun t ht => hts t (List.mem_cons_of_mem _ ht)) hr (fun x hx => hlt x (List.mem_append.2 (.inr hx))))
    have ht := hts t (List.mem_cons.2 (.inl rfl))
    exact Below.trod hl ht.1 ht.2 h0 hb (fun x hx => hlt x (List.mem_append.2 (.inl hx)))

/-- THE FRAME. -/
theorem law_post {f : Func} {s : ChangeSpec} {W W' : World} {args : Array Value} {ds gs : List (DataW H)} {before : List MemPlace} {tb : TypeId}
    (hW : DataW.Whole enc P f.params.toList s.vars false W args.toList ds gs before) (hvars : s.vars = []) (hl : laidOutB P = true) (hts : ∀ t ∈ f.params.toList, P.readableRec t = true ∧ t < P.types.size)
    (hrt : f.resultTypes = #[tb]) (htb : P.underlying tb = some .bool) (hres : (s.fn H ds).results = [.lit (.bool true)]) (hargs : (s.fn H ds).args = ds) (hvs : (s.fn H ds).vars = []) (hb : Below W.heap.size W W') :
    s.post enc P f false true false false W args (.bool true) W' := by
  have hlt := hW.lt
  have hW' := hW
  obtain ⟨p, q, hA, hV, rfl, hfz, hnd⟩ := hW
  rw [hvars] at hV
  obtain ⟨rfl, rfl⟩ := trodVars_none hV
  refine ⟨ds, [], p ++ [], [], p, [], hW', ?_, ?_, ?_, hb.frame _, fun h => by cases h⟩
  · rw [List.append_nil, hres, hrt]
    exact trodAll_cons_mk (shut_bool htb _) trodAll_mk0
  · rw [List.append_nil, hargs]
    exact args_stay hl hb _ _ _ _ hts hA (fun x hx => hlt x (List.mem_append.2 (.inl hx)))
  · rw [hvars, List.append_nil, hvs]
    exact rfl
end Go.Proofs.YtkaaeajidejchaaGreatDoor.Frame
