/- Lemmas for the statement's proof, several texts in one: P22, P19, T8, P23, T6. -/
import Derived.Test.YtkaaeajidejchaaGreatDoorZ08
import Derived.OwnWalk
import Derived.Laws.CopyOwn
import Derived.Test.YtkaaeajidejchaaGreatDoorZ04
import Derived.Test.YtkaaeajidejchaaGreatDoorZ05
import Derived.Test.YtkaaeajidejchaaGreatDoorZ01
import Derived.Lib.AppendIntMem
import Derived.Lib.LaidTab
/- Plain: what is fed in pieces is as what is fed at once; the trailers are small. -/
namespace Go.Proofs.YtkaaeajidejchaaGreatDoor.Sp
open Go.RowKit Sl

section
variable {sz : List UInt8 → Nat × Nat} {fl : List UInt8 → Option Fld}
theorem cut_step {o o' d2 : Dec} {l : List UInt8} {a m r k : Nat} (hak : a ≤ k) (hI : feedS sz fl o (l.drop a) = (d2, r)) (hx : feedS sz fl o ((l.drop a).take (k - a)) = (o', m)) (hk : k ≤ l.length) :
    m ≤ k - a ∧ (stopS o' = false → a + m = k) ∧ ∃ r', feedS sz fl o' (l.drop (a + m)) = (d2, r') ∧ m + r' = r := by
  have hm := feedS_le sz fl ((l.drop a).take (k - a)) o
  have hlen : ((l.drop a).take (k - a)).length = k - a := by rw [List.length_take, List.length_drop]; omega
  rw [hx, hlen] at hm
  have hg : stopS o' = false → m = k - a := fun hs => by
    have := feedS_go sz fl ((l.drop a).take (k - a)) o (by rw [hx]; exact hs)
    rw [hx, hlen] at this
    exact this
  refine ⟨hm, fun hs => by have := hg hs; omega, ?_⟩
  have happ := feedS_app (sz := sz) (fl := fl) ((l.drop a).take (k - a)) ((l.drop a).drop (k - a)) o
  rw [List.take_append_drop, hI, hx] at happ
  simp only [Prod.mk.injEq] at happ
  obtain ⟨h1, h2⟩ := happ
  cases hs : stopS o'
  · have := hg hs
    have he : (l.drop a).drop (k - a) = l.drop (a + m) := by rw [List.drop_drop]; congr 1; omega
    rw [he] at h1 h2
    exact ⟨_, Prod.ext h1.symm rfl, h2.symm⟩
  · rw [feedS_stop sz fl hs] at h1 h2
    exact ⟨0, by rw [feedS_stop sz fl hs, h1], by simp only at h2; omega⟩
theorem cut_end {o d2 : Dec} {l : List UInt8} {a r : Nat} (hI : feedS sz fl o (l.drop a) = (d2, r)) (h : stopS o = true ∨ a = l.length) : o = d2 ∧ r = 0 := by
  rcases h with h | h
  · rw [feedS_stop sz fl h] at hI
    injection hI with h1 h2
    exact ⟨h1, h2.symm⟩
  · rw [h, List.drop_length] at hI
    injection hI with h1 h2
    exact ⟨h1, h2.symm⟩

/-- the trailers' names are small -/
def TrS (N : Nat) (d : Dec) : Prop := ∀ f ∈ d.tr, f.1.size ≤ N
theorem oneS_tr (hfl : ∀ l f, fl l = some f → f.1.size ≤ l.length) {N : Nat} {d : Dec} (h : TrS N d) (hl : d.line.length ≤ N) (c : UInt8) : TrS N (oneS sz fl d c) := by
  obtain ⟨L, H, C, B, st, line, body, left, behind, tr, bad, done⟩ := d
  unfold TrS at h ⊢
  simp only at h hl
  cases st <;> simp only [oneS, stepS]
  · repeat' split
    all_goals exact h
  · repeat' split
    all_goals exact h
  · repeat' split
    all_goals exact h
  · repeat' split
    all_goals exact h
  · repeat' split
    all_goals first
      | exact h
      | (rename_i f hf _
         intro g hg
         rcases List.mem_append.1 hg with hg | hg
         · exact h g hg
         · obtain rfl := List.mem_singleton.1 hg
           have := hfl _ _ hf
           simp at this
           omega)
theorem feedS_tr (hsz : ∀ s, statB (sz s).2 = true) (hfl : ∀ l f, fl l = some f → f.1.size ≤ l.length) (N : Nat) : ∀ (l : List UInt8) (k : Nat) (d : Dec), Okd k d → TrS N d → k + l.length ≤ N → TrS N (feedS sz fl d l).1
  | [], _, _, _, h, _ => h
  | c :: t, k, d, hk, h, hN => by
    unfold feedS
    split
    · exact h
    · have hl := hk.l1
      simp only [List.length_cons] at hN
      exact feedS_tr hsz hfl N t (k + 1) _ (oneS_ok (fl := fl) hsz hk c) (oneS_tr hfl h (by omega) c) (by omega)
end
theorem flF_small (l : List UInt8) (f : Fld) (h : flF l = some f) : f.1.size ≤ l.length := by
  unfold flF at h
  split at h
  · injection h with h
    have := (lineF_size (ofL l)).1
    rw [h] at this
    have h2 : (ofL l).size = l.length := size_list rfl
    omega
  · cases h
theorem newD_tr (L H C B : Int) (N : Nat) : TrS N (newD L H C B) := fun _ h => by cases h

theorem samePF_refl (f : Fld) : samePF (f, f) = true := by unfold samePF same; simp
theorem sameFs_refl (A : List Fld) : sameFs A A = true := by
  unfold sameFs
  rw [decide_eq_true rfl, Bool.true_and, List.all_eq_true]
  intro p hp
  obtain ⟨i, hi⟩ := List.getElem?_of_mem hp
  have hlt : i < (A.zip A).length := (List.getElem?_eq_some_iff.1 hi).1
  have := List.getElem_zip (h := hlt)
  rw [(List.getElem?_eq_some_iff.1 hi).2] at this
  rw [this]
  exact samePF_refl _

theorem rsame_refl (u v : Value) (A : List Fld) (hA : A.length ≤ 1000000) (hs : ∀ f ∈ A, f.1.size ≤ 200) (w : World) (hu : Rd w u A.length 2 (fldV A)) (hv : Rd w v A.length 2 (fldV A)) :
    Calls Tryz.prog 19 #[u, v] w fun e w' => e = .returned (.bool true) ∧ Below w.heap.size w w' := by
  have h := rsameF_any u v A A (by omega) (by omega) (fun f hf => by have := hs f hf; omega) (fun f hf => by have := hs f hf; omega) w hu hv
  rw [sameFs_refl] at h
  exact h
theorem okd_le {k k' : Nat} {d : Dec} (h : Okd k d) (hk : k ≤ k') : Okd k' d := ⟨h.bo, h.da, h.ba, Nat.le_trans h.l1 hk, Nat.le_trans h.l2 hk, Nat.le_trans h.l3 hk, Nat.le_trans h.l4 hk⟩

/-- a slice of numbers that came in -/
def intV (L : List Int) : List Value := L.map fun n => .int .i64 n
theorem intV_get (L : List Int) (i : Nat) (h : i < L.length) : (intV L)[i]? = some (.int .i64 L[i]) := by simp [intV, h]
theorem int_cell {w : World} {ao : Option Addr} {n cap : Nat} {L : List Int} (h : Rd w (.slice ao n cap) n 1 (intV L)) (k : Nat) (hk : k < L.length) :
    ∃ b off, ao = some ⟨b, off, none⟩ ∧ b < w.heap.size ∧ w.cell? ⟨b, off + k, none⟩ = some (.int .i64 L[k]) := by
  obtain ⟨ao', cap', e, _, _, _, hc⟩ := h
  cases e
  have hg := intV_get L k hk
  obtain ⟨b, off, rfl, hlt, hcc⟩ := hc (by intro e; rw [e] at hg; simp at hg)
  exact ⟨b, off, rfl, hlt, hcc _ _ hg⟩
end Go.Proofs.YtkaaeajidejchaaGreatDoor.Sp

/- The decoder: Trailers (a copy of slices whose elements have two cells). -/
namespace Go.Proofs.YtkaaeajidejchaaGreatDoor.Sp
open Go.RowKit Sl

theorem run_copy_two {P : Program} (w : World) (dT sT ty elem : TypeId) (g n dCap : Nat) (a : Addr) (sCap : Nat) (cur : Array Value) (t : TypeId) (cs : List Value) (i : TypeInfo)
    (hu : P.underlying dT = some (.slice elem)) (hq : P.info? elem = some i) (hi : i.size = 2) (hg : w.heap[g]? = some (.cells cur t (0, 0))) (hcs : cs.length = n * 2)
    (hsrc : ∀ j v, cs[j]? = some v → w.cell? (a.add j) = some v) (hcur : cur.size = n * 2) (h1 : ∀ v ∈ cs, v.oneCell' = true) :
    (Builtin.copy_ #[dT, sT] ty #[.slice (some ⟨g, 0, none⟩) n dCap, .slice (some a) n sCap]).run P w = .ok (goInt n) (w.setRow g cs.toArray) := by
  have hl := run_loadCells_list (P := P) w a cs hsrc
  have hst := run_storeCells_at P g 0 t cs 0 cur w hg (by omega) h1
  have hd : cur.toList.drop (0 + 0 + cs.length) = [] := List.drop_of_length_le (by rw [Array.length_toList]; omega)
  rw [hd] at hst
  rw [hcs] at hl
  simp only [Nat.add_zero, List.take_zero, List.nil_append, List.append_nil] at hst
  simp [Builtin.copy_, run_underlying hu, Builtin.lenOf, Builtin.firstCells, sizeOf, typeInfo, hq, hi, hl, hst]
section
variable {P : Program} {w : World} {ops : Array Oper} {rest : List Oper} {o : Oper} {a : Act} {Q : Exit → Act → World → Prop}
theorem wpList_copy_two (hgd : o.guard = none) (x y : Operand) (dT sT elem : TypeId) (ho : o.op = .call { callee := .builtin .copy, args := #[x, y], argTypes := #[dT, sT] }) (g n dCap : Nat) (ad : Addr) (sCap : Nat) (cur : Array Value) (t : TypeId) (cs : List Value) (i : TypeInfo)
    (hu : P.underlying dT = some (.slice elem)) (hq : P.info? elem = some i) (hi : i.size = 2) (hx : a.eval x = .slice (some ⟨g, 0, none⟩) n dCap) (hy : a.eval y = .slice (some ad) n sCap) (hg : w.heap[g]? = some (.cells cur t (0, 0))) (hcs : cs.length = n * 2)
    (hsrc : ∀ j v, cs[j]? = some v → w.cell? (ad.add j) = some v) (hcur : cur.size = n * 2) (h1 : ∀ v ∈ cs, v.oneCell' = true)
    (h : wpList P ops Q rest (a.put o.dst (goInt n)) (w.setRow g cs.toArray)) : wpList P ops Q (o :: rest) a w := by
  refine wpList_plain hgd fun K hK => ?_
  have hrun := run_copy_two (P := P) w dT sT o.type elem g n dCap ad sCap cur t cs i hu hq hi hg hcs hsrc hcur h1
  unfold Oper.wp
  simp [execOp, ho, resolve, invoke, builtin, hx, hy, hrun, Result.andThen]
  exact hK _ _ h
theorem wpList_copy_none2 (hgd : o.guard = none) (x y : Operand) (dT sT elem : TypeId) (ho : o.op = .call { callee := .builtin .copy, args := #[x, y], argTypes := #[dT, sT] }) (g n dCap : Nat) (i : TypeInfo)
    (hu : P.underlying dT = some (.slice elem)) (hq : P.info? elem = some i) (hx : a.eval x = .slice (some ⟨g, 0, none⟩) n dCap) (hy : a.eval y = .slice none 0 0)
    (h : wpList P ops Q rest (a.put o.dst (goInt 0)) w) : wpList P ops Q (o :: rest) a w := by
  refine wpList_plain hgd fun K hK => ?_
  have hrun := run_copy_nil (P := P) w dT sT o.type elem ⟨g, 0, none⟩ n dCap hu (by rw [hq]; rfl)
  unfold Oper.wp
  simp [execOp, ho, resolve, invoke, builtin, hx, hy, hrun, Result.andThen]
  exact hK _ _ h
end

set_option maxRecDepth 100000 in
set_option maxHeartbeats 2000000 in
theorem trailers_any (w : World) (base b : Nat) (nx : Value) (d : Dec) (ln bd tr : Value) (h : DecAt w base b nx d ln bd tr) (hl : d.tr.length ≤ 1000000) :
    Calls Tryz.prog 20 #[.pointer (some ⟨b, 0, none⟩)] w fun e w' => ∃ v, e = .returned v ∧ Rd w' v d.tr.length 2 (fldV d.tr) ∧ Below w.heap.size w w' := by
  have HD := hide h
  have p9 := h.has.cell 9 _ rfl
  have hrd := Rd.own h.trs
  obtain ⟨ao, cap, htr, hcap, hnone, hlen, hcell⟩ := hrd
  (try simp only at p9)
  rw [htr] at p9
  obtain ⟨i, hi, hz, h1, h2⟩ := info_parts (P := Tryz.prog) (e := 50) (z := .agg #[.string ⟨#[]⟩, .string ⟨#[]⟩]) (size := 2) (bytes := 32) (by kernel_rfl)
  obtain ⟨n, hn⟩ : ∃ n, d.tr.length = n := ⟨_, rfl⟩
  rw [hn] at p9 hl
  have HN := Lib.hid hn
  have HI := Lib.hid hi
  have HZ := Lib.hid hz
  have H1 := Lib.hid h1
  have H2 := Lib.hid h2
  have HC := hide hcell
  have HNO := hide hnone
  have zb := h.has.lt
  clear h htr hn hi hz h1 h2 hcell hnone hlen
  go_enter Tryz.func20, Tryz.ntmps20
  go_upto_region 4 with (refine wpList_make_full _ rfl _ _ 41 rfl w.heap.size 50 i _ 2 Tryz.underlying41 HI.out HZ.out H1.out _ _ _ _ n rfl rfl rfl rfl (by rw [H2.out]; omega) (by unfold maxLen; omega) (Nat.le_refl _) ?_; intro w1 hown hgr)
  have hb1 : Below w.heap.size w w1 := (Below.refl _ _).grown hgr (Nat.le_refl _) (fun k h => by cases h)
  obtain ⟨cur, hg, hcs⟩ : ∃ cur : Array Value, w1.heap[w.heap.size]? = some (.cells cur 50 (0, 0)) ∧ cur.size = n * 2 := by
    rcases hown.2 with ⟨e, _⟩ | ⟨g, cp, cur, e, _, hg, _, _, hcs, _⟩
    · simp at e
    · injection e with e1 e2 e3
      injection e1 with e1
      injection e1 with e1
      subst e1
      subst e3
      exact ⟨cur, hg, hcs⟩
  have hD1 := (unhide HD).call hb1
  have q9 : w1.cell? ⟨b, 9, none⟩ = some (.slice ao n cap) := (hb1.cell (p := ⟨b, 9, none⟩) zb).trans p9
  have hglt : w.heap.size < w1.heap.size := by
    rcases Nat.lt_or_ge w.heap.size w1.heap.size with h | h
    · exact h
    · rw [Array.getElem?_eq_none h] at hg; cases hg
  have HB1 := hide hb1
  have HG := hide hg
  have HCS := Lib.hid hcs
  clear hown hgr p9 zb hb1 hg hcs hD1
  cases ao with
  | none =>
    obtain rfl : cap = 0 := unhide HNO rfl
    obtain rfl : n = 0 := by have := HN.out; omega
    have htr0 : d.tr = [] := List.eq_nil_of_length_eq_zero HN.out
    go_wp2_with (refine wpList_copy_none2 rfl _ _ _ _ 50 rfl w.heap.size 0 0 i Tryz.underlying41 HI.out rfl rfl ?_)
    refine bodyPost_ret (results_tmp rfl _ _ _) rfl ⟨_, rfl, ?_, unhide HB1⟩
    exact ⟨_, 0, rfl, Nat.le_refl _, fun h => (by cases h), rfl, fun h => absurd rfl h⟩
  | some ad =>
    have hsrc : ∀ j v, (fldV d.tr)[j]? = some v → w1.cell? (ad.add j) = some v := by
      intro j v hv
      obtain ⟨b2, off, e, hlt, hc⟩ := unhide HC (by intro e; rw [e] at hv; simp at hv)
      cases e
      rw [Addr.add_mid]
      exact ((unhide HB1).cell (p := ⟨b2, off + j, none⟩) hlt).trans (hc j v hv)
    have h1c : ∀ v ∈ fldV d.tr, v.oneCell' = true := by
      intro v hv
      simp only [fldV, List.mem_flatMap] at hv
      obtain ⟨f, _, hv⟩ := hv
      simp at hv
      rcases hv with rfl | rfl <;> rfl
    have hlen : (fldV d.tr).length = n * 2 := by rw [fldV_len, HN.out]
    have HSR := hide hsrc
    have H1C := hide h1c
    have HLE := Lib.hid hlen
    have HCC := HC
    clear hsrc h1c hlen HC
    go_wp2_with (refine wpList_copy_two rfl _ _ _ _ 50 rfl w.heap.size n n ad cap cur 50 (fldV d.tr) i Tryz.underlying41 HI.out H1.out rfl rfl (unhide HG) HLE.out (unhide HSR) HCS.out (unhide H1C) ?_)
    refine bodyPost_ret (results_tmp rfl _ _ _) rfl ⟨_, rfl, ?_, below_setRow (unhide HB1) (Nat.le_refl _) _⟩
    rw [HN.out]
    refine ⟨some ⟨w.heap.size, 0, none⟩, n, rfl, Nat.le_refl _, fun h => (by cases h), HLE.out, fun _ => ⟨w.heap.size, 0, rfl, ?_, fun j u hu => ?_⟩⟩
    · simpa [World.setRow] using hglt
    · rw [Nat.zero_add, cell_of_row _ w.heap.size j (fldV d.tr).toArray 50 (0, 0) (setRow_heap w1 w.heap.size cur _ 50 _ (unhide HG))]
      simpa using hu
end Go.Proofs.YtkaaeajidejchaaGreatDoor.Sp

/- kit: Same of texts, Pick, Times. -/
namespace Go.Proofs.YtkaaeajidejchaaGreatDoor.Sp
open Go.RowKit Sl


/-- Pick at 30. -/
def pick (n m : Int) : Int := if m < 1 then 0 else if n.tmod m < 0 then n.tmod m + m else n.tmod m
theorem pick_bd (n m : Int) (hm : 1 ≤ m) : 0 ≤ pick n m ∧ pick n m < m := by
  unfold pick
  rw [if_neg (by omega)]
  have h1 := Int.tmod_lt_of_pos n (show (0 : Int) < m by omega)
  have h2 : -m < n.tmod m := by
    have := Int.tmod_lt_of_pos (-n) (show (0 : Int) < m by omega)
    rw [Int.neg_tmod] at this
    omega
  split <;> omega

theorem pick_any (n m : Int) (w : World) (hm : m ≤ 1048577) :
    Calls Tryz.prog 17 #[.int .i64 n, .int .i64 m] w fun e w' => e = .returned (.int .i64 (pick n m)) ∧ w = w' := by
  by_cases h : m < 1
  · have e : pick n m = 0 := if_pos h
    rw [e]
    go_enter Tryz.func17, Tryz.ntmps17
    go_wp2
    go_ret
    exact ⟨rfl, rfl⟩
  · have h1 := Int.tmod_lt_of_pos n (show (0 : Int) < m by omega)
    have h2 : -m < n.tmod m := by
      have := Int.tmod_lt_of_pos (-n) (show (0 : Int) < m by omega)
      rw [Int.neg_tmod] at this
      omega
    have hm1 : 1 ≤ m := by omega
    by_cases hneg : n.tmod m < 0
    · have e : pick n m = n.tmod m + m := by unfold pick; rw [if_neg h, if_pos hneg]
      rw [e]
      have hn : ¬ 0 ≤ n := fun h0 => by have := Int.tmod_nonneg m h0; omega
      go_enter Tryz.func17, Tryz.ntmps17
      go_wp2
      go_ret
      exact ⟨rfl, rfl⟩
    · have e : pick n m = n.tmod m := by unfold pick; rw [if_neg h, if_neg hneg]
      rw [e]
      by_cases hn : 0 ≤ n
      · rw [Int.tmod_eq_emod_of_nonneg hn] at hneg h1 h2 ⊢
        go_enter Tryz.func17, Tryz.ntmps17
        go_wp2
        go_ret
        exact ⟨rfl, rfl⟩
      · go_enter Tryz.func17, Tryz.ntmps17
        go_wp2
        go_ret
        exact ⟨rfl, rfl⟩

/-- Times at a text of one byte. -/
def strOf : Value → ByteArray
  | .string s => s
  | _ => ⟨#[]⟩
theorem rep_app (c : UInt8) (a b : Nat) {x y : ByteArray} (hx : x.data.toList = List.replicate a c) (hy : y.data.toList = List.replicate b c) : (x ++ y).data.toList = List.replicate (a + b) c := by
  rw [app_data, hx, hy, List.replicate_append_replicate]
set_option maxRecDepth 100000 in
set_option maxHeartbeats 1000000 in
theorem times_any (c : UInt8) (N : Nat) (hN : N ≤ 1000) (w : World) :
    Calls Tryz.prog 16 #[.string ⟨#[c]⟩, .int .i64 N] w fun e w' => e = .returned (.string (ofL (List.replicate N c))) ∧ w = w' := by
  go_enter Tryz.func16, Tryz.ntmps16
  go_wp2_with fail
  go_loop [0, 1, 5] (fun s n out => ∃ (a p m : Nat) (x y : ByteArray), n = .int .i64 m ∧ s = .string x ∧ out = .string y ∧ x.data.toList = List.replicate p c ∧ y.data.toList = List.replicate a c ∧ a + p * m = N ∧ p ≤ 2 * N + 1 ∧ 1 ≤ p) (fun _ n _ => (intOf n).toNat)
  case atStart => exact ⟨0, 1, N, _, _, rfl, rfl, rfl, rfl, rfl, by omega, by omega, by omega⟩
  case round =>
    obtain ⟨a, p, m, x, y, rfl, rfl, rfl, hx, hy, hs, hp, hp1⟩ := hrel
    have HX := Lib.hid hx
    have HY := Lib.hid hy
    have zx : x.size = p := by rw [size_list hx]; simp
    have zy : y.size = a := by rw [size_list hy]; simp
    have hpm : 0 < m → p ≤ N := fun h => by
      have : p * 1 ≤ p * m := Nat.mul_le_mul_left p h
      omega
    have ham : a ≤ N := by omega
    have hmN : m ≤ N := by
      have : 1 * m ≤ p * m := Nat.mul_le_mul_right m hp1
      omega
    have HS := Lib.hid hs
    clear hx hy hs
    rcases Nat.lt_or_ge 0 m with h0 | h0
    rotate_left
    · have hfin : y = ofL (List.replicate N c) := by
        have := HS.out
        rw [show m = 0 by omega, Nat.mul_zero, Nat.add_zero] at this
        rw [← this]
        exact ba_eq HY.out
      have HF := Lib.hid hfin
      have hb : decide ((0 : Int) < (m : Int)) = false := by simp; omega
      clear hfin
      go_wp2_with fail
      go_ret
      exact ⟨by rw [HF.out] <;> rfl, rfl⟩
    · have hpN := hpm h0
      have hb : decide ((0 : Int) < (m : Int)) = true := by simp; omega
      obtain ⟨j, hj | hj⟩ : ∃ j, m = 2 * j ∨ m = 2 * j + 1 := ⟨m / 2, by omega⟩
      · have hmj : (m : Int) = 2 * (j : Int) := by omega
        have hd : Int.tdiv (m : Int) 2 = (j : Int) := by rw [Int.tdiv_eq_ediv_of_nonneg (by omega)]; omega
        have hr : Int.tmod (m : Int) 2 = 0 := by rw [Int.tmod_eq_emod_of_nonneg (by omega)]; omega
        have hjN : j ≤ 1000 := by omega
        have HJ := Lib.hid hj
        have HB := Lib.hid hmj
        clear hj hmj
        go_wp2_with fail
        go_round
        case rel => exact ⟨a, p + p, j, x ++ x, y, by go_num, rfl, rfl, rep_app c p p HX.out HX.out, HY.out, by have := HS.out; rw [HJ.out] at this; rw [Nat.add_mul]; rw [show p * (2 * j) = p * j + p * j by rw [Nat.mul_left_comm, Nat.two_mul]] at this; omega, by omega, by omega⟩
        case measure => have := HJ.out; simp [intOf]; omega
      · have hmj : (m : Int) = 2 * (j : Int) + 1 := by omega
        have hd : Int.tdiv (m : Int) 2 = (j : Int) := by rw [Int.tdiv_eq_ediv_of_nonneg (by omega)]; omega
        have hr : Int.tmod (m : Int) 2 = 1 := by rw [Int.tmod_eq_emod_of_nonneg (by omega)]; omega
        have hjN : j ≤ 1000 := by omega
        have HJ := Lib.hid hj
        have HB := Lib.hid hmj
        clear hj hmj
        go_wp2_with fail
        go_round
        case rel => exact ⟨a + p, p + p, j, x ++ x, y ++ x, by go_num, rfl, rfl, rep_app c p p HX.out HX.out, rep_app c a p HY.out HX.out, by have := HS.out; rw [HJ.out] at this; rw [Nat.add_mul]; rw [Nat.mul_add, show p * (2 * j) = p * j + p * j by rw [Nat.mul_left_comm, Nat.two_mul]] at this; omega, by omega, by omega⟩
        case measure => have := HJ.out; simp [intOf]; omega

end Go.Proofs.YtkaaeajidejchaaGreatDoor.Sp

/- The walk of the law ChunkCuts. -/
namespace Go.Proofs.YtkaaeajidejchaaGreatDoor.Sp
open Go.RowKit Sl

set_option maxRecDepth 100000 in
set_option maxHeartbeats 8000000 in
theorem ccuts_any (L H C B : Int) (hB1 : B ≤ 9223372036854775807) (s : ByteArray) (v : Value) (A : List Int) (hA : A.length ≤ 9223372036854775807) (w : World) (hv : Rd w v A.length 1 (intV A)) (hM : MaxV w) :
    Calls Tryz.prog 5 #[.agg #[.int .i64 L, .int .i64 H, .int .i64 C, .int .i64 B], .string s, v] w fun e w' => e = .returned (.bool true) ∧ Below w.heap.size w w' := by
  obtain ⟨ao, cap, rfl⟩ := hv.form
  have HL0 := hide (Reg.Has.new w [.int .i64 L, .int .i64 H, .int .i64 C, .int .i64 B] 23)
  have hb0 : Below w.heap.size w (w.alloc (.cells #[.int .i64 L, .int .i64 H, .int .i64 C, .int .i64 B] 23)) := (Below.refl _ _).alloc (Nat.le_refl _) _
  have HV := hide (hv.below hb0)
  have HM := hide (hM.below hb0)
  have HB0 := hide hb0
  have hlt0 : w.heap.size < (w.alloc (.cells #[.int .i64 L, .int .i64 H, .int .i64 C, .int .i64 B] 23)).heap.size := by simp
  have c0 := hide (lives5_any _ (unhide HM))
  clear hv hM hb0
  go_enter Tryz.func5, Tryz.ntmps5
  go_wp2_with fail
  generalize w.alloc (.cells #[.int .i64 L, .int .i64 H, .int .i64 C, .int .i64 B] 23) = wb at *
  generalize hbl : w.heap.size = bl at *
  refine (unhide c0).mono ?_; rintro e w1 ⟨rfl, hb1⟩
  have HB1 := hide hb1
  clear hb1 c0
  by_cases h200 : 200 < s.size
  · have h1 : decide ((200 : Int) < s.size) = true := decide_eq_true (by omega)
    go_wp2_with fail
    go_ret
    exact ⟨rfl, by rw [hbl]; exact (unhide HB0).trans ((unhide HB1).mono (by omega))⟩
  by_cases h20 : 20 < A.length
  · have h1 : decide ((200 : Int) < s.size) = false := decide_eq_false (by omega)
    have h2 : decide ((20 : Int) < A.length) = true := decide_eq_true (by omega)
    go_wp2_with fail
    go_ret
    exact ⟨rfl, by rw [hbl]; exact (unhide HB0).trans ((unhide HB1).mono (by omega))⟩
  have h1 : decide ((200 : Int) < s.size) = false := decide_eq_false (by omega)
  have h2 : decide ((20 : Int) < A.length) = false := decide_eq_false (by omega)
  have HL1 := hide ((unhide HL0).call (unhide HB1))
  have l0 := (unhide HL1).cell 0 _ rfl
  have l1 := (unhide HL1).cell 1 _ rfl
  have l2 := (unhide HL1).cell 2 _ rfl
  have l3 := (unhide HL1).cell 3 _ rfl
  go_upto_region 5 with fail
  have hkpne : Nonempty (Reg.Kp (fun w' => Reg.Has w' bl [.int .i64 L, .int .i64 H, .int .i64 C, .int .i64 B])) := ⟨⟨_, (unhide HL1).drew⟩⟩
  refine Reg.region_plan3 (fun w' => Reg.Has w' bl [.int .i64 L, .int .i64 H, .int .i64 C, .int .i64 B]) (.takes [0, 2] (.ones [1, 3, 4, 5] .done)) (by kernel_rfl) (by kernel_rfl) (by kernel_rfl) (by decide) (by intro o _ c a v w h; generalize o.dst = d at h; cases d <;> exact h) ((unhide HL1).drew) ?_
  simp only [Reg.Plan3.takes, Reg.Plan3.ones, Reg.wpPlan3, List.getElem?_cons_zero, List.getElem?_cons_succ]
  refine ⟨_, yieldsIf_load_mid rfl 23 _ rfl bl 0 rfl [.int .i64 L, .int .i64 H, .int .i64 C, .int .i64 B] _ (fun w' ⟨x, hx⟩ => by subst hx; exact has_range x.h) Tryz.underlying23 rfl (by kernel_rfl), ?_⟩
  refine ⟨_, yieldsIf_load_mid rfl 23 _ rfl bl 0 rfl [.int .i64 L, .int .i64 H, .int .i64 C, .int .i64 B] _ (fun w' ⟨x, hx⟩ => by subst hx; exact has_range x.h) Tryz.underlying23 rfl (by kernel_rfl), ?_⟩
  have HBD := hide ((Below.refl w1.heap.size w1).drew)
  (try simp only [Reg.wpOne])
  go_wp2_with ((go_at_call 11; refine (new_any _ _ _ _ _).mono ?_; rintro e w2 ⟨rfl, h2, hb2⟩))
  refine Reg.thenQ_mk ⟨⟨_, ((unhide HL1).drew).call hb2⟩, rfl⟩ ?_
  (try dsimp only)
  (try simp only [Reg.wpOne])
  go_wp2_with ((go_at_call 11; refine (new_any _ _ _ _ _).mono ?_; rintro e w3 ⟨rfl, h3, hb3⟩))
  refine Reg.thenQ_mk ⟨⟨_, (((unhide HL1).drew).call hb2).call hb3⟩, rfl⟩ ?_
  (try dsimp only)
  (try simp only [Reg.wpOne])
  go_wp2_with (fail)
  refine Reg.thenQ_mk ⟨⟨_, (((unhide HL1).drew).call hb2).call hb3⟩, rfl⟩ ?_
  (try dsimp only)
  (try simp only [Reg.wpOne])
  go_wp2_with (fail)
  refine Reg.thenQ_mk ⟨⟨_, (((unhide HL1).drew).call hb2).call hb3⟩, rfl⟩ ?_
  (try dsimp only)
  have h2' : DecAt w2 w1.heap.size (w1.heap.size + 1) (nextV (w1.heap.size + 1) CS.size) (newD L H C B) (Value.slice none 0 0) (Value.slice none 0 0) (Value.slice none 0 0) := h2
  have hb12 : Below w1.heap.size w1 w2 := (unhide HBD).trans hb2
  have hb13 : Below w1.heap.size w1 w3 := hb12.trans (hb3.mono hb12.size)
  have HB3 := hide ((unhide HB1).trans (hb13.mono (unhide HB1).size))
  have hD3 := h2'.call hb3
  have hlt12 := h2'.has.lt
  have hlt3 := h3.has.lt
  have hle1 : wb.heap.size ≤ w1.heap.size := (unhide HB1).size
  have hMl : 5 < w1.heap.size := Nat.lt_of_lt_of_le (unhide HM).lt (unhide HB1).size
  obtain ⟨⟨d2, n⟩, hf⟩ : ∃ r, feedS sizeF flF (newD L H C B) s.data.toList = r := ⟨_, rfl⟩
  have hn : n ≤ s.size := by
    have := feedS_le sizeF flF s.data.toList (newD L H C B)
    rw [hf] at this
    simpa using this
  have htr2 := feedS_tr (fl := flF) sizeF_stat flF_small 200 s.data.toList 0 (newD L H C B) (newD_ok _ _ _ _) (newD_tr _ _ _ _ _) (by first | (simp; omega) | simp)
  rw [hf] at htr2
  have HFD := hide (feedN_any w3 (w1.heap.size + 1) (newD L H C B) _ _ _ s 0 w1.heap.size hD3 (newD_ok _ _ _ _) (by omega) (by omega) (by show B.toNat ≤ _; omega) ((unhide HM).below (unhide HB3)) hMl d2 n hf)
  have HD3 := hide hD3
  have HO3 := hide h3
  have HN := Lib.hid hf
  have HTR := hide htr2
  clear h2 h2' h3 hb12 hb13 hb2 hb3 HBD hD3 hf htr2 l0 l1 l2 l3 hkpne
  generalize w1.heap.size = b1 at *
  generalize w2.heap.size = b2 at *
  go_wp2_with (go_at_call 13; refine (unhide HFD).mono ?_; rintro e w4 ⟨rfl, lnD, bdD, trD, h4, m4⟩)
  have h3n : ∀ b k, foot b (Value.slice none 0 0) (Value.slice none 0 0) (Value.slice none 0 0) k → k = b := by
    rintro b k (e | e | e | e)
    · exact e
    all_goals cases e
  have HD4 := hide h4
  have HO4 := hide ((unhide HO3).but m4.but (fun k h1 h2 => by have := h3n _ _ h1; have := h3n _ _ h2; omega))
  have HB4 := hide ((unhide HB3).trans (m4.below (unhide HD3) hle1 (unhide HB3).size))
  have HDS4 := hide (show ∀ k, foot (b1 + 1) lnD bdD trD k → ¬ foot (b2 + 1) (Value.slice none 0 0) (Value.slice none 0 0) (Value.slice none 0 0) k from fun k h1 h2 => by have e := h3n _ _ h2; exact (m4.new k h1).elim (fun h3 => by have := h3n _ _ h3; omega) (fun h3 => by omega))
  clear h4 m4 HD3 HO3 HFD HB3
  go_loopw [11, 12, 13] (fun ate f i wr => ∃ (j a r : Nat) (o : Dec) (ln bdv tr : Value), i = .int .i64 j ∧ ate = .int .i64 a ∧ f = .int .i64 o.bad ∧ a ≤ s.size ∧ DecAt wr b2 (b2 + 1) (nextV (b2 + 1) o.st) o ln bdv tr ∧ DecAt wr b1 (b1 + 1) (nextV (b1 + 1) d2.st) d2 lnD bdD trD ∧ (∀ k, foot (b1 + 1) lnD bdD trD k → ¬ foot (b2 + 1) ln bdv tr k) ∧ Okd (j * 200) o ∧ Below wb.heap.size wb wr ∧ o.B = B.toNat ∧ feedS sizeF flF o (s.data.toList.drop a) = (d2, r) ∧ a + r = n ∧ j ≤ A.length + 1 ∧ (j ≤ A.length ∨ stopS o = true ∨ a = s.size)) (fun _ _ i _ => A.length + 1 - (intOf i).toNat)
  case atStart => exact ⟨0, 0, n, newD L H C B, _, _, _, rfl, rfl, rfl, Nat.zero_le _, unhide HO4, unhide HD4, unhide HDS4, newD_ok _ _ _ _, unhide HB4, rfl, HN.out, by omega, by omega, .inl (Nat.zero_le _)⟩
  case round =>
    clear HO4 HD4 HDS4 HB4 HN
    obtain ⟨j, a, r, o, ln, bdv, tr, rfl, rfl, rfl, has, hO, hD, hdis, hok, hbel, hBo, hI, har, hj1, hend⟩ := hrel
    have htr := unhide HTR
    have HDS := hide hdis
    clear hdis h3n
    have hsl : s.data.toList.length = s.size := by simp
    by_cases hj : j ≤ A.length
    · have g1 : decide ((j : Int) ≤ A.length) = true := decide_eq_true (by omega)
      by_cases hbad : o.bad = 0
      · have g2 : ((o.bad : Int) == 0) = true := by rw [hbad]; rfl
        cases hdn : o.done
        · have hst : stopS o = false := by unfold stopS; rw [hbad, hdn]; rfl
          have HDN := done_any wr b2 (b2 + 1) _ o ln bdv tr hO
          rw [hdn] at HDN
          replace HDN := hide HDN
          clear hst hbad hend hdn
          go_upto_region 11 with (go_at_call 12; refine (unhide HDN).mono ?_; rintro e w5 ⟨rfl, rfl⟩)
          clear HDN
          by_cases hlt : j < A.length
          · have g3 : decide ((j : Int) < A.length) = true := decide_eq_true (by omega)
            obtain ⟨ab, aoff, rfl, hab, hac0⟩ := int_cell (unhide HV) j hlt
            have hac : wr.cell? ⟨ab, aoff + j, none⟩ = some (.int .i64 A[j]) := (hbel.cell (p := ⟨ab, aoff + j, none⟩) hab).trans hac0
            obtain ⟨kk, hq, hak, hkk⟩ : ∃ kk : Nat, (a : Int) + pick A[j] ((s.size : Int) - a + 1) = kk ∧ a ≤ kk ∧ kk ≤ s.size := by
              have h1 := pick_bd A[j] ((s.size : Int) - a + 1) (by omega)
              exact ⟨((a : Int) + pick A[j] ((s.size : Int) - a + 1)).toNat, by omega, by omega, by omega⟩
            have hpr : 0 ≤ pick A[j] ((s.size : Int) - a + 1) ∧ pick A[j] ((s.size : Int) - a + 1) ≤ s.size := by omega
            obtain ⟨pv, hpv⟩ : ∃ pv, pick A[j] ((s.size : Int) - a + 1) = pv := ⟨_, rfl⟩
            have CP := pick_any A[j] ((s.size : Int) - a + 1) wr (by omega)
            rw [hpv] at hq hpr CP
            replace CP := hide CP
            clear hpv hac0
            go_upto_region 14 with (go_at_call 17; refine (unhide CP).mono ?_; rintro e w5 ⟨rfl, rfl⟩)
            (try rw [hq])
            clear CP hq hpr
            obtain ⟨⟨o2, m⟩, hx⟩ : ∃ q, feedS sizeF flF o ((s.data.toList.drop a).take (kk - a)) = q := ⟨_, rfl⟩
            obtain ⟨hm, hgo, r2, hI2, hr2⟩ := cut_step hak hI hx (by first | (simp; omega) | simp)
            have hxd : (s.extract a kk).data.toList = (s.data.toList.drop a).take (kk - a) := Lib.extract_data s a kk
            have hxs : (s.extract a kk).size = kk - a := by rw [ByteArray.size_extract]; omega
            have hok2 := feedS_ok (fl := flF) sizeF_stat ((s.data.toList.drop a).take (kk - a)) _ o hok
            have hlim := (feedS_lim (sz := sizeF) (fl := flF) ((s.data.toList.drop a).take (kk - a)) o).1
            have hlen : ((s.data.toList.drop a).take (kk - a)).length = kk - a := by first | (simp; omega) | simp
            rw [hx] at hok2 hlim
            simp only at hok2 hlim
            rw [hlen] at hok2
            rw [← hxd] at hx
            have FE := hide (feedN_any wr (b2 + 1) o ln bdv tr (s.extract a kk) _ b2 hO hok (by omega) (by have := hO.has.lt; omega) (by rw [hBo]; omega) ((unhide HM).below hbel) (by omega) o2 m hx)
            have HDO := hide hO
            have HDD := hide hD
            have HBE := hide hbel
            have HOK2 := hide hok2
            have HLIM := Lib.hid (hlim.trans hBo)
            have HI2 := Lib.hid hI2
            have HGO := hide hgo
            have t1 : decide ((m : Int) < 0) = false := decide_eq_false (by omega)
            have t2 : decide (((kk : Int) - a) < m) = false := decide_eq_false (by omega)
            clear hO hD hok hbel hBo hI htr hx hxd hxs hok2 hlim hlen hI2 hgo
            go_upto_region 16 with (go_at_call 13; refine (unhide FE).mono ?_; rintro e w5 ⟨rfl, ln5, bd5, tr5, h5, m5⟩)
            have HD5 := hide ((unhide HDD).but m5.but (unhide HDS))
            have HO5 := hide h5
            have HB5 := hide ((unhide HBE).trans (m5.below (unhide HDO) (by omega) (unhide HBE).size))
            have HDS5 := hide (show ∀ k, foot (b1 + 1) lnD bdD trD k → ¬ foot (b2 + 1) ln5 bd5 tr5 k from fun k h1 h2 => (m5.new k h2).elim (unhide HDS k h1) (fun h3 => by have := (unhide HDD).foot_lt k h1; omega))
            clear h5 m5 FE HDO HDD HBE HDS
            go_wp2_with fail
            go_roundw
            case rel => exact ⟨j + 1, a + m, r2, o2, ln5, bd5, tr5, by go_num, by go_num, rfl, by omega, unhide HO5, unhide HD5, unhide HDS5, okd_le (unhide HOK2) (by omega), unhide HB5, HLIM.out, HI2.out, by omega, by omega, .inl (by omega)⟩
            case measure => simp [intOf]; omega
          · have g3 : decide ((j : Int) < A.length) = false := decide_eq_false (by omega)
            have hkk : s.size ≤ s.size := Nat.le_refl _
            have hak : a ≤ s.size := by omega
            go_upto_region 14 with fail
            obtain ⟨⟨o2, m⟩, hx⟩ : ∃ q, feedS sizeF flF o ((s.data.toList.drop a).take (s.size - a)) = q := ⟨_, rfl⟩
            obtain ⟨hm, hgo, r2, hI2, hr2⟩ := cut_step hak hI hx (by first | (simp; omega) | simp)
            have hxd : (s.extract a s.size).data.toList = (s.data.toList.drop a).take (s.size - a) := Lib.extract_data s a s.size
            have hxs : (s.extract a s.size).size = s.size - a := by rw [ByteArray.size_extract]; omega
            have hok2 := feedS_ok (fl := flF) sizeF_stat ((s.data.toList.drop a).take (s.size - a)) _ o hok
            have hlim := (feedS_lim (sz := sizeF) (fl := flF) ((s.data.toList.drop a).take (s.size - a)) o).1
            have hlen : ((s.data.toList.drop a).take (s.size - a)).length = s.size - a := by first | (simp; omega) | simp
            rw [hx] at hok2 hlim
            simp only at hok2 hlim
            rw [hlen] at hok2
            rw [← hxd] at hx
            have FE := hide (feedN_any wr (b2 + 1) o ln bdv tr (s.extract a s.size) _ b2 hO hok (by omega) (by have := hO.has.lt; omega) (by rw [hBo]; omega) ((unhide HM).below hbel) (by omega) o2 m hx)
            have HDO := hide hO
            have HDD := hide hD
            have HBE := hide hbel
            have HOK2 := hide hok2
            have HLIM := Lib.hid (hlim.trans hBo)
            have HI2 := Lib.hid hI2
            have HGO := hide hgo
            have t1 : decide ((m : Int) < 0) = false := decide_eq_false (by omega)
            have t2 : decide (((s.size : Int) - a) < m) = false := decide_eq_false (by omega)
            clear hO hD hok hbel hBo hI htr hx hxd hxs hok2 hlim hlen hI2 hgo
            go_upto_region 16 with (go_at_call 13; refine (unhide FE).mono ?_; rintro e w5 ⟨rfl, ln5, bd5, tr5, h5, m5⟩)
            have HD5 := hide ((unhide HDD).but m5.but (unhide HDS))
            have HO5 := hide h5
            have HB5 := hide ((unhide HBE).trans (m5.below (unhide HDO) (by omega) (unhide HBE).size))
            have HDS5 := hide (show ∀ k, foot (b1 + 1) lnD bdD trD k → ¬ foot (b2 + 1) ln5 bd5 tr5 k from fun k h1 h2 => (m5.new k h2).elim (unhide HDS k h1) (fun h3 => by have := (unhide HDD).foot_lt k h1; omega))
            clear h5 m5 FE HDO HDD HBE HDS
            go_wp2_with fail
            go_roundw
            case rel => exact ⟨j + 1, a + m, r2, o2, ln5, bd5, tr5, by go_num, by go_num, rfl, by omega, unhide HO5, unhide HD5, unhide HDS5, okd_le (unhide HOK2) (by omega), unhide HB5, HLIM.out, HI2.out, by omega, by omega, (by cases hs2 : stopS o2 with | true => exact .inr (.inl rfl) | false => exact .inr (.inr (by have := unhide HGO hs2; omega)))⟩
            case measure => simp [intOf]; omega
        · have HDN := done_any wr b2 (b2 + 1) _ o ln bdv tr hO
          rw [hdn] at HDN
          replace HDN := hide HDN
          obtain ⟨rfl, rfl⟩ := cut_end hI (.inl (by unfold stopS; rw [hdn]; simp))
          obtain rfl : a = n := by omega
          have HF := hide ((unhide HB0).trans (hbel.mono (by omega)))
          have HFs := hide (show bl ≤ wr.heap.size by have := hbel.size; omega)
          have HTL := hide (show o.tr.length ≤ 1000000 by have := hok.l4; omega)
          have HTS := hide htr
          have HDO := hide hO
          have HDD := hide hD
          clear hO hD hok hbel hBo hI HDS htr hj1 hend
          clear hbad
          go_upto_region 19 with (go_at_call 12; refine (unhide HDN).mono ?_; rintro e w5 ⟨rfl, rfl⟩)
          clear HDN hdn
          have DD := hide (done_any wr b1 (b1 + 1) _ o lnD bdD trD (unhide HDD))
          have DO := hide (done_any wr b2 (b2 + 1) _ o ln bdv tr (unhide HDO))
          have BD := hide (body_any wr b1 (b1 + 1) _ o lnD bdD trD (unhide HDD))
          have BO := hide (body_any wr b2 (b2 + 1) _ o ln bdv tr (unhide HDO))
          obtain ⟨x, hx⟩ : ∃ x, ofL o.body = x := ⟨_, rfl⟩
          rw [hx] at BD BO
          clear hx
          have TD := hide (trailers_any wr b1 (b1 + 1) _ o lnD bdD trD (unhide HDD) (unhide HTL))
          cases hdd : o.done
          · rw [hdd] at DD DO
            go_wp2_with (first | (go_at_call 12; first | (have q := secondDone; refine (unhide DD).mono ?_; rintro e w5 ⟨rfl, rfl⟩) | (have q := firstDone; refine (unhide DO).mono ?_; rintro e w5 ⟨rfl, rfl⟩; have secondDone := True.intro) | (refine (unhide DD).mono ?_; rintro e w5 ⟨rfl, rfl⟩; have firstDone := True.intro)) | (go_at_call 14; first | (have q := firstBody; refine (unhide BO).mono ?_; rintro e w5 ⟨rfl, rfl⟩) | (refine (unhide BD).mono ?_; rintro e w5 ⟨rfl, rfl⟩; have firstBody := True.intro)))
            go_ret
            exact ⟨rfl, by rw [hbl]; exact unhide HF⟩
          · rw [hdd] at DD DO
            go_wp2_with (first | (go_at_call 12; first | (have q := secondDone; refine (unhide DD).mono ?_; rintro e w5 ⟨rfl, rfl⟩) | (have q := firstDone; refine (unhide DO).mono ?_; rintro e w5 ⟨rfl, rfl⟩; have secondDone := True.intro) | (refine (unhide DD).mono ?_; rintro e w5 ⟨rfl, rfl⟩; have firstDone := True.intro)) | (go_at_call 14; first | (have q := firstBody; refine (unhide BO).mono ?_; rintro e w5 ⟨rfl, rfl⟩) | (refine (unhide BD).mono ?_; rintro e w5 ⟨rfl, rfl⟩; have firstBody := True.intro)) | (go_at_call 20; first | (have q := firstTr; refine (unhide TO).mono ?_; rintro e w6 ⟨vO, rfl, hrO, hb6⟩; have SM := hide (rsame_refl vD vO o.tr (unhide HTL) (unhide HTS) w6 ((unhide HRD).below hb6) hrO); have HB6 := hide hb6; clear hrO hb6) | (refine (unhide TD).mono ?_; rintro e w5 ⟨vD, rfl, hrD, hb5⟩; have HRD := hide hrD; have HB5 := hide hb5; have TO := hide (trailers_any w5 b2 (b2 + 1) _ o ln bdv tr ((unhide HDO).call hb5) (unhide HTL)); clear hrD hb5; have firstTr := True.intro)) | (go_at_call 19; refine (unhide SM).mono ?_; rintro e w7 ⟨rfl, hb7⟩))
            go_ret
            exact ⟨rfl, by rw [hbl]; exact (((unhide HF).trans ((unhide HB5).mono (unhide HFs))).trans ((unhide HB6).mono (Nat.le_trans (unhide HFs) (unhide HB5).size))).trans (hb7.mono (Nat.le_trans (unhide HFs) (Nat.le_trans (unhide HB5).size (unhide HB6).size)))⟩
      · have g2 : ((o.bad : Int) == 0) = false := by rw [beq_eq_false_iff_ne]; omega
        obtain ⟨rfl, rfl⟩ := cut_end hI (.inl (by unfold stopS; simp [hbad]))
        obtain rfl : a = n := by omega
        have HF := hide ((unhide HB0).trans (hbel.mono (by omega)))
        have HFs := hide (show bl ≤ wr.heap.size by have := hbel.size; omega)
        have HTL := hide (show o.tr.length ≤ 1000000 by have := hok.l4; omega)
        have HTS := hide htr
        have HDO := hide hO
        have HDD := hide hD
        clear hO hD hok hbel hBo hI HDS htr hj1 hend
        clear hbad
        go_upto_region 19 with fail
        have DD := hide (done_any wr b1 (b1 + 1) _ o lnD bdD trD (unhide HDD))
        have DO := hide (done_any wr b2 (b2 + 1) _ o ln bdv tr (unhide HDO))
        have BD := hide (body_any wr b1 (b1 + 1) _ o lnD bdD trD (unhide HDD))
        have BO := hide (body_any wr b2 (b2 + 1) _ o ln bdv tr (unhide HDO))
        obtain ⟨x, hx⟩ : ∃ x, ofL o.body = x := ⟨_, rfl⟩
        rw [hx] at BD BO
        clear hx
        have TD := hide (trailers_any wr b1 (b1 + 1) _ o lnD bdD trD (unhide HDD) (unhide HTL))
        cases hdd : o.done
        · rw [hdd] at DD DO
          go_wp2_with (first | (go_at_call 12; first | (have q := secondDone; refine (unhide DD).mono ?_; rintro e w5 ⟨rfl, rfl⟩) | (have q := firstDone; refine (unhide DO).mono ?_; rintro e w5 ⟨rfl, rfl⟩; have secondDone := True.intro) | (refine (unhide DD).mono ?_; rintro e w5 ⟨rfl, rfl⟩; have firstDone := True.intro)) | (go_at_call 14; first | (have q := firstBody; refine (unhide BO).mono ?_; rintro e w5 ⟨rfl, rfl⟩) | (refine (unhide BD).mono ?_; rintro e w5 ⟨rfl, rfl⟩; have firstBody := True.intro)))
          go_ret
          exact ⟨rfl, by rw [hbl]; exact unhide HF⟩
        · rw [hdd] at DD DO
          go_wp2_with (first | (go_at_call 12; first | (have q := secondDone; refine (unhide DD).mono ?_; rintro e w5 ⟨rfl, rfl⟩) | (have q := firstDone; refine (unhide DO).mono ?_; rintro e w5 ⟨rfl, rfl⟩; have secondDone := True.intro) | (refine (unhide DD).mono ?_; rintro e w5 ⟨rfl, rfl⟩; have firstDone := True.intro)) | (go_at_call 14; first | (have q := firstBody; refine (unhide BO).mono ?_; rintro e w5 ⟨rfl, rfl⟩) | (refine (unhide BD).mono ?_; rintro e w5 ⟨rfl, rfl⟩; have firstBody := True.intro)) | (go_at_call 20; first | (have q := firstTr; refine (unhide TO).mono ?_; rintro e w6 ⟨vO, rfl, hrO, hb6⟩; have SM := hide (rsame_refl vD vO o.tr (unhide HTL) (unhide HTS) w6 ((unhide HRD).below hb6) hrO); have HB6 := hide hb6; clear hrO hb6) | (refine (unhide TD).mono ?_; rintro e w5 ⟨vD, rfl, hrD, hb5⟩; have HRD := hide hrD; have HB5 := hide hb5; have TO := hide (trailers_any w5 b2 (b2 + 1) _ o ln bdv tr ((unhide HDO).call hb5) (unhide HTL)); clear hrD hb5; have firstTr := True.intro)) | (go_at_call 19; refine (unhide SM).mono ?_; rintro e w7 ⟨rfl, hb7⟩))
          go_ret
          exact ⟨rfl, by rw [hbl]; exact (((unhide HF).trans ((unhide HB5).mono (unhide HFs))).trans ((unhide HB6).mono (Nat.le_trans (unhide HFs) (unhide HB5).size))).trans (hb7.mono (Nat.le_trans (unhide HFs) (Nat.le_trans (unhide HB5).size (unhide HB6).size)))⟩
    · have g1 : decide ((j : Int) ≤ A.length) = false := decide_eq_false (by omega)
      obtain ⟨rfl, rfl⟩ := cut_end hI (hend.resolve_left hj |>.imp_right (fun e => e.trans hsl.symm))
      obtain rfl : a = n := by omega
      have HF := hide ((unhide HB0).trans (hbel.mono (by omega)))
      have HFs := hide (show bl ≤ wr.heap.size by have := hbel.size; omega)
      have HTL := hide (show o.tr.length ≤ 1000000 by have := hok.l4; omega)
      have HTS := hide htr
      have HDO := hide hO
      have HDD := hide hD
      clear hO hD hok hbel hBo hI HDS htr hj1 hend
      go_upto_region 19 with fail
      have DD := hide (done_any wr b1 (b1 + 1) _ o lnD bdD trD (unhide HDD))
      have DO := hide (done_any wr b2 (b2 + 1) _ o ln bdv tr (unhide HDO))
      have BD := hide (body_any wr b1 (b1 + 1) _ o lnD bdD trD (unhide HDD))
      have BO := hide (body_any wr b2 (b2 + 1) _ o ln bdv tr (unhide HDO))
      obtain ⟨x, hx⟩ : ∃ x, ofL o.body = x := ⟨_, rfl⟩
      rw [hx] at BD BO
      clear hx
      have TD := hide (trailers_any wr b1 (b1 + 1) _ o lnD bdD trD (unhide HDD) (unhide HTL))
      cases hdd : o.done
      · rw [hdd] at DD DO
        go_wp2_with (first | (go_at_call 12; first | (have q := secondDone; refine (unhide DD).mono ?_; rintro e w5 ⟨rfl, rfl⟩) | (have q := firstDone; refine (unhide DO).mono ?_; rintro e w5 ⟨rfl, rfl⟩; have secondDone := True.intro) | (refine (unhide DD).mono ?_; rintro e w5 ⟨rfl, rfl⟩; have firstDone := True.intro)) | (go_at_call 14; first | (have q := firstBody; refine (unhide BO).mono ?_; rintro e w5 ⟨rfl, rfl⟩) | (refine (unhide BD).mono ?_; rintro e w5 ⟨rfl, rfl⟩; have firstBody := True.intro)))
        go_ret
        exact ⟨rfl, by rw [hbl]; exact unhide HF⟩
      · rw [hdd] at DD DO
        go_wp2_with (first | (go_at_call 12; first | (have q := secondDone; refine (unhide DD).mono ?_; rintro e w5 ⟨rfl, rfl⟩) | (have q := firstDone; refine (unhide DO).mono ?_; rintro e w5 ⟨rfl, rfl⟩; have secondDone := True.intro) | (refine (unhide DD).mono ?_; rintro e w5 ⟨rfl, rfl⟩; have firstDone := True.intro)) | (go_at_call 14; first | (have q := firstBody; refine (unhide BO).mono ?_; rintro e w5 ⟨rfl, rfl⟩) | (refine (unhide BD).mono ?_; rintro e w5 ⟨rfl, rfl⟩; have firstBody := True.intro)) | (go_at_call 20; first | (have q := firstTr; refine (unhide TO).mono ?_; rintro e w6 ⟨vO, rfl, hrO, hb6⟩; have SM := hide (rsame_refl vD vO o.tr (unhide HTL) (unhide HTS) w6 ((unhide HRD).below hb6) hrO); have HB6 := hide hb6; clear hrO hb6) | (refine (unhide TD).mono ?_; rintro e w5 ⟨vD, rfl, hrD, hb5⟩; have HRD := hide hrD; have HB5 := hide hb5; have TO := hide (trailers_any w5 b2 (b2 + 1) _ o ln bdv tr ((unhide HDO).call hb5) (unhide HTL)); clear hrD hb5; have firstTr := True.intro)) | (go_at_call 19; refine (unhide SM).mono ?_; rintro e w7 ⟨rfl, hb7⟩))
        go_ret
        exact ⟨rfl, by rw [hbl]; exact (((unhide HF).trans ((unhide HB5).mono (unhide HFs))).trans ((unhide HB6).mono (Nat.le_trans (unhide HFs) (unhide HB5).size))).trans (hb7.mono (Nat.le_trans (unhide HFs) (Nat.le_trans (unhide HB5).size (unhide HB6).size)))⟩
end Go.Proofs.YtkaaeajidejchaaGreatDoor.Sp

/- Plain: the digits of a number; strconv.Itoa of any number. -/
namespace Go.Proofs.YtkaaeajidejchaaGreatDoor.Sp
open Go.RowKit

def decB (u : Nat) : ByteArray := ⟨(Lib.decDigits u).toArray⟩
def itoaB (n : Int) : ByteArray := ⟨(Lib.itoa n).toArray⟩
def tenB : ByteArray := ⟨#[48, 49, 50, 51, 52, 53, 54, 55, 56, 57]⟩
theorem dec_small (u : Nat) (h : u < 10) : tenB.extract u (u + 1) = decB u := by
  have h1 : ∀ i, i < 10 → (tenB.extract i (i + 1)).data.toList = Lib.decDigits i := by decide +kernel
  exact ba_eq (h1 u h)
theorem dec_more (u : Nat) (h : 10 ≤ u) : decB u = decB (u / 10) ++ decB (u % 10) := by
  have e : Lib.decDigits u = Lib.decDigits (u / 10) ++ Lib.decDigits (u % 10) := by
    conv => lhs; rw [Lib.decDigits, dif_neg (by omega)]
    have e2 : Lib.decDigits (u % 10) = [UInt8.ofNat (48 + u % 10)] := by rw [Lib.decDigits, dif_pos (by omega)]
    rw [e2]
  have h2 : (decB (u / 10) ++ decB (u % 10)).data.toList = Lib.decDigits u := by rw [app_data, e]; rfl
  exact (ba_eq h2).symm
theorem decB_size (u : Nat) : (decB u).size ≤ u + 1 := by
  have h : ∀ n u, u ≤ n → (Lib.decDigits u).length ≤ u + 1 := by
    intro n
    induction n with
    | zero => intro u hu; obtain rfl : u = 0 := by omega
              decide +kernel
    | succ n ih =>
      intro u hu
      rw [Lib.decDigits]
      split
      · simp
      · have := ih (u / 10) (by omega)
        rw [List.length_append]; simp; omega
  have := h u u (Nat.le_refl _)
  rw [show (decB u).size = (Lib.decDigits u).length from size_list rfl]
  exact this
theorem decB_20 (u : Nat) (h : u < 10000000000000000000) : (decB u).size ≤ 19 := by
  have step : ∀ (k u : Nat), u < 10 ^ k → 0 < k → (Lib.decDigits u).length ≤ k := by
    intro k
    induction k with
    | zero => intro u h h0; omega
    | succ k ih =>
      intro u h _
      rw [Lib.decDigits]
      split
      · simp
      · rcases Nat.eq_zero_or_pos k with h0 | h0
        · subst h0; simp at h; omega
        · have := ih (u / 10) (by rw [Nat.pow_succ] at h; omega) h0
          rw [List.length_append]; simp; omega
  rw [show (decB u).size = (Lib.decDigits u).length from size_list rfl]
  exact step 19 u h (by omega)

theorem itoa_size (n : Int) (h0 : -9223372036854775808 ≤ n) (h1 : n ≤ 9223372036854775807) : (itoaB n).size ≤ 20 := by
  rw [show (itoaB n).size = (Lib.itoa n).length from size_list rfl]
  unfold Lib.itoa
  split
  · have := decB_20 n.natAbs (by omega)
    rw [show (decB n.natAbs).size = (Lib.decDigits n.natAbs).length from size_list rfl] at this
    simp; omega
  · have := decB_20 n.toNat (by omega)
    rw [show (decB n.toNat).size = (Lib.decDigits n.toNat).length from size_list rfl] at this
    omega
theorem itoa_neg (n : Int) (h : n < 0) : (⟨#[45]⟩ : ByteArray) ++ decB n.natAbs = itoaB n := by
  unfold itoaB Lib.itoa
  rw [if_pos h]
  have : ((⟨#[45]⟩ : ByteArray) ++ decB n.natAbs).data.toList = 45 :: Lib.decDigits n.natAbs := by rw [app_data]; rfl
  exact ba_eq this
theorem itoa_pos (n : Int) (h : 0 ≤ n) : decB n.toNat = itoaB n := by
  unfold itoaB Lib.itoa
  rw [if_neg (by omega)]; rfl

/-! ### the table of powers of ten -/
abbrev Pow10 (w : World) : Prop := Lib.TabIs Tryz.prog w "internal/strconv.uint64pow10" .u64 Lib.pow10Tab
theorem Pow10.below {w w' : World} (h : Pow10 w) (hb : Below w.heap.size w w') : Pow10 w' := by
  have hgn : Tryz.prog.globalNamed "internal/strconv.uint64pow10" = some 2 := by kernel_rfl
  unfold Pow10 Lib.TabIs World.var? at h ⊢
  rw [hgn] at h ⊢
  simp only [Option.bind_some] at h ⊢
  have hlt : 2 < w.heap.size := by
    rcases Nat.lt_or_ge 2 w.heap.size with h' | h'
    · exact h'
    · rw [Array.getElem?_eq_none h'] at h; cases h
  rw [hb.block 2 hlt]
  exact h
theorem itoa_any (n : Int) (h0 : -9223372036854775808 ≤ n) (h1 : n ≤ 9223372036854775807) (w : World) (ht : Pow10 w) : Calls Tryz.prog 86 #[.int .i64 n] w fun e w' => e = .returned (.string (itoaB n)) ∧ Below w.heap.size w w' := by
  refine (Tryz.strconv_Itoa n h0 h1 w ht).mono ?_
  rintro e w' ⟨rfl, k, os, rfl⟩
  exact ⟨rfl, Lib.below_grow _ w (Nat.le_refl _) k os⟩
end Go.Proofs.YtkaaeajidejchaaGreatDoor.Sp
