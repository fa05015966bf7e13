/- slices.DeleteFunc on fields: the walk. -/
import Derived.Test.YtfohhhdebinikaaGreatDoorC8
import Derived.Deep.AppendLies
namespace Go.Proofs.YtfohhhdebinikaaGreatDoor.Sp
open Go.RowKit Sl

theorem zeroFld (w : World) : (zeroValue 30).run Tryz.prog w = .ok (.agg #[.string ⟨#[]⟩, .string ⟨#[]⟩]) w := by kernel_rfl

theorem Aft.of_set {B : Nat} {row : Option Nat} {a b : World} {g : Nat} (h : a.grownBy b (some g)) (hg : B ≤ g) (hB : B ≤ a.heap.size) : Aft B row a b :=
  ⟨h.os, h.tape, h.output, h.size, fun k hk _ => h.block k (by omega) (fun e => by have := Option.some.inj e; omega)⟩

/-- What IndexFunc tells. -/
def Found {σ : Type} (step : σ → Fld → Bool × σ) (B : Nat) (row : Option Nat) (I : World → σ → Prop) (v : Value) (L : List Fld) (s : σ) (w w' : World) (r : Int) : Prop :=
  (r = -1 ∧ (∀ k (h : k < L.length), (step (runS step s (L.take k)) L[k]).1 = false) ∧ I w' (runS step s L) ∨
    ∃ k, ∃ h : k < L.length, r = k ∧ (∀ j (h : j < k) (h2 : j < L.length), (step (runS step s (L.take j)) L[j]).1 = false) ∧ (step (runS step s (L.take k)) L[k]).1 = true ∧ I w' (runS step s (L.take (k + 1)))) ∧
  w'.ownsRow B 30 2 v L.length (fldV L) ∧ Aft B row w w'
theorem index_found {σ : Type} (step : σ → Fld → Bool × σ) (g : FuncId) (cap : Array Value) (B : Nat) (row : Option Nat) (I : World → σ → Prop) (hC : Clo g cap B row I step)
    (eg : ∀ args w, (callFunc g args).run Tryz.prog w = .ok (.enter g args) w)
    (v : Value) (L : List Fld) (hL : L.length ≤ 1000000) (hf : ∀ f ∈ L, f.1.size ≤ 2000) (s : σ) (w : World) (hv : w.ownsRow B 30 2 v L.length (fldV L)) (hI : I w s) (hB : B ≤ w.heap.size) :
    Calls Tryz.prog 54 #[v, .func (.func g) #[] cap] w fun e w' => ∃ r : Int, e = .returned (.int .i64 r) ∧ Found step B row I v L s w w' r := by
  refine (index_any step g cap B row I hC eg v L hL hf s w hv hI hB).mono ?_
  rintro e w' ⟨⟨rfl, h1, h2⟩ | ⟨k, hk, rfl, h1, h2, h3⟩, h4, h5⟩
  · exact ⟨-1, rfl, .inl ⟨rfl, h1, h2⟩, h4, h5⟩
  · exact ⟨k, rfl, .inr ⟨k, hk, rfl, h1, h2, h3⟩, h4, h5⟩

/-- Where DeleteFunc stands: i fields kept, those from j on as they were. -/
structure Mid {σ : Type} (step : σ → Fld → Bool × σ) (s : σ) (L R : List Fld) (i j : Nat) : Prop where
  lt : i < j
  le : j ≤ L.length
  len : R.length = L.length
  front : R.take i = keepF step s (L.take j)
  back : R.drop j = L.drop j
theorem Mid.start {σ : Type} {step : σ → Fld → Bool × σ} {s : σ} {L : List Fld} {k : Nat} (hk : k < L.length) (ha : ∀ j (h : j < k) (h2 : j < L.length), (step (runS step s (L.take j)) L[j]).1 = false) (ht : (step (runS step s (L.take k)) L[k]).1 = true) : Mid step s L L k (k + 1) :=
  ⟨by omega, by omega, rfl, by rw [keepF_take step s L k hk, if_pos ht, List.append_nil, keepF_none step s L k (by omega) ha], rfl⟩
theorem Mid.get {σ : Type} {step : σ → Fld → Bool × σ} {s : σ} {L R : List Fld} {i j : Nat} (h : Mid step s L R i j) (hj : j < L.length) : R[j]'(by rw [h.len]; exact hj) = L[j] := by
  have h1 : R[j]? = L[j]? := by
    have := congrArg (fun l : List Fld => l[0]?) h.back
    simpa using this
  have h2 : j < R.length := by rw [h.len]; exact hj
  rw [List.getElem?_eq_getElem h2, List.getElem?_eq_getElem hj] at h1
  exact Option.some.inj h1
theorem Mid.skip {σ : Type} {step : σ → Fld → Bool × σ} {s : σ} {L R : List Fld} {i j : Nat} (h : Mid step s L R i j) (hj : j < L.length) (hd : (step (runS step s (L.take j)) L[j]).1 = true) : Mid step s L R i (j + 1) := by
  refine ⟨by have := h.lt; omega, by omega, h.len, by rw [keepF_take step s L j hj, if_pos hd, List.append_nil]; exact h.front, ?_⟩
  have := congrArg (List.drop 1) h.back
  rwa [List.drop_drop, List.drop_drop] at this
theorem Mid.keep {σ : Type} {step : σ → Fld → Bool × σ} {s : σ} {L R : List Fld} {i j : Nat} (h : Mid step s L R i j) (hj : j < L.length) (hd : (step (runS step s (L.take j)) L[j]).1 = false) : Mid step s L (R.set i L[j]) (i + 1) (j + 1) := by
  have hi : i < R.length := by rw [h.len]; have := h.lt; omega
  refine ⟨by have := h.lt; omega, by omega, by rw [List.length_set]; exact h.len, ?_, ?_⟩
  · rw [keepF_take step s L j hj, if_neg (by rw [hd]; decide), ← h.front, List.take_succ_eq_append_getElem (by rw [List.length_set]; exact hi), List.getElem_set_self, List.take_set_of_le (Nat.le_refl _)]
  · rw [List.drop_set_of_lt (by have := h.lt; omega)]
    have := congrArg (List.drop 1) h.back
    rwa [List.drop_drop, List.drop_drop] at this
theorem Mid.done {σ : Type} {step : σ → Fld → Bool × σ} {s : σ} {L R : List Fld} {i : Nat} (h : Mid step s L R i L.length) : R.take i = keepF step s L := by
  have := h.front
  rwa [List.take_length] at this

theorem own_fld {w : World} {B : Nat} {e : TypeId} {g n cap : Nat} {R : List Fld} (h : w.ownsRow B e 2 (.slice (some ⟨g, 0, none⟩) n cap) n (fldV R)) (hn : R.length = n) (k : Nat) (hk : k < n) :
    w.cell? ⟨g, k * 2, none⟩ = some (.string (R[k]'(by omega)).1) ∧ w.cell? ⟨g, k * 2 + 1, none⟩ = some (.string (R[k]'(by omega)).2) := by
  have hg := fldV_get R k (by omega)
  exact ⟨(h.cellAt (k * 2) (by omega)).trans hg.1, (h.cellAt (k * 2 + 1) (by omega)).trans hg.2⟩

set_option maxHeartbeats 4000000 in
set_option maxRecDepth 100000 in
theorem delete_any {σ : Type} (step : σ → Fld → Bool × σ) (g : FuncId) (cap : Array Value) (B : Nat) (row : Option Nat) (I : World → σ → Prop) (hC : Clo g cap B row I step)
    (eg : ∀ args w, (callFunc g args).run Tryz.prog w = .ok (.enter g args) w)
    (v : Value) (L : List Fld) (hL : L.length ≤ 1000000) (hf : ∀ f ∈ L, f.1.size ≤ 2000) (s : σ) (w : World) (hv : w.ownsRow B 30 2 v L.length (fldV L)) (hI : I w s) (hB : B ≤ w.heap.size) :
    Calls Tryz.prog 51 #[v, .func (.func g) #[] cap] w fun e w' =>
      ∃ v', e = .returned v' ∧ w'.ownsRow B 30 2 v' (keepF step s L).length (fldV (keepF step s L)) ∧ I w' (runS step s L) ∧ Aft B row w w' := by
  obtain ⟨ao, cp, rfl⟩ := (Rd.own hv).form
  have hix := hide (index_found step g cap B row I hC eg _ L hL hf s w hv hI hB)
  have HF := hide hf
  have HC := hide hC
  clear hv hf hI hC
  go_enter Tryz.func51, Tryz.ntmps51
  go_upto_region 2 with (go_at_call 54; refine (unhide hix).mono ?_; rintro e w1 ⟨r, rfl, hh⟩; have HH := hide hh; clear hh)
  obtain ⟨hr, hown, haft⟩ := unhide HH
  have HO := hide hown
  have HAF := hide haft
  clear HH hown haft hix
  rcases hr with ⟨rfl, ha, hi⟩ | ⟨k, hk, rfl, ha, ht, hi⟩
  · have hkp : keepF step s L = L := by
      have := keepF_none step s L L.length (Nat.le_refl _) (fun j h h2 => ha j h2)
      rwa [List.take_length] at this
    have HK := Lib.hid hkp
    have HI := hide hi
    clear ha hi hkp
    go_wp2_with fail
    go_ret
    exact ⟨_, rfl, by rw [HK.out]; exact unhide HO, unhide HI, unhide HAF⟩
  · have HM := hide (Mid.start hk ha ht)
    have HI := hide hi
    clear ha hi ht
    obtain ⟨gb, hgb⟩ : ∃ gb, ao = some ⟨gb, 0, none⟩ := by
      obtain ⟨gb, cc, e, _⟩ := World.ownsRow.form (unhide HO) (by omega)
      exact ⟨gb, by injection e⟩
    subst hgb
    have hgB : B ≤ gb := row_base (unhide HO) gb rfl
    go_wp2_with fail
    go_loopw [5, 6] (fun vi vj wr => ∃ (i j : Nat) (R : List Fld), vi = .int .i64 i ∧ vj = .int .i64 j ∧ Mid step s L R i j ∧ wr.ownsRow B 30 2 (.slice (some ⟨gb, 0, none⟩) L.length cp) L.length (fldV R) ∧ I wr (runS step s (L.take j)) ∧ Aft B row w wr) (fun _ vj _ => L.length - (intOf vj).toNat)
    case atStart => exact ⟨k, k + 1, L, rfl, by go_num, unhide HM, unhide HO, unhide HI, unhide HAF⟩
    case round =>
      clear HM HO HI HAF
      obtain ⟨i, j, R, rfl, rfl, hm, hown, hi, haft⟩ := hrel
      have HM := hide hm
      have HO := hide hown
      have HA := hide haft
      have hij := hm.lt
      have hjl := hm.le
      have hrl := hm.len
      have hBw : B ≤ wr.heap.size := Nat.le_trans hB haft.size
      rcases Nat.lt_or_ge j L.length with hlt | hge
      · obtain ⟨b1, o1, eb, hb, d1, d2⟩ := fld_cells (by rw [← hrl] at hown; exact Rd.own hown) rfl j (by omega)
        have hget := hm.get hlt
        cases eb
        rw [Nat.zero_add] at d1 d2
        rw [hget] at d1 d2
        have hc := hide (fun w' (h : I w' (runS step s (L.take j))) (h2 : B ≤ w'.heap.size) => (unhide HC).call w' _ L[j] h ((unhide HF) _ (List.getElem_mem _)) h2)
        have hi2 := hide (fun o : Obj => (unhide HC).turn wr (wr.alloc o) _ hi ((Below.refl _ _).alloc hBw o))
        clear hm hown hi haft hget
        have hrne : some wr.heap.size ≠ row := fun e => by have := (unhide HC).rowlt _ e.symm; omega
        have hal : Aft B row wr (wr.alloc (.cells #[.string L[j].1, .string L[j].2] 30)) := Aft.of_below ((Below.refl _ _).alloc hBw _)
        have HAL := hide hal
        clear hal
        cases hst : (step (runS step s (L.take j)) L[j]).1
        · go_wp2_with (go_at_fn g; refine ((unhide hc) _ ((unhide hi2) _) (by simp; omega)).mono ?_; rintro e w2 ⟨rfl, hi3, hg3⟩; have H3 := hide hi3; have G3 := hide hg3; have O3 := hide ((unhide HC).row ((unhide HO).alloc _) hg3); have x1 := hg3.cell (a := ⟨wr.heap.size, 0, none⟩) (v := .string L[j].1) (by simp) hrne; have x2 := hg3.cell (a := ⟨wr.heap.size, 1, none⟩) (v := .string L[j].2) (by simp) hrne; have y1 := (own_fld (unhide O3) hrl i (by omega)).1; have y2 := (own_fld (unhide O3) hrl i (by omega)).2; have f1 := (unhide O3).frozenAt (i * 2); have f2 := (unhide O3).frozenAt (i * 2 + 1); clear hi3 hg3)
          go_roundw
          case rel =>
            (repeat apply Exists.intro)
            refine ⟨?_, rfl⟩
            have hbl : Below B w2 ((w2.setCell ⟨gb, i * 2, none⟩ (.string L[j].1)).setCell ⟨gb, i * 2 + 1, none⟩ (.string L[j].2)) := ((Below.refl _ _).setCell (p := ⟨gb, i * 2, none⟩) hgB _).setCell (p := ⟨gb, i * 2 + 1, none⟩) hgB _
            refine ⟨i + 1, j + 1, R.set i L[j], by go_num, by go_num, (unhide HM).keep hlt hst, ?_, (unhide HC).turn _ _ _ (by rw [runS_take step s L j hlt]; exact unhide H3) hbl, (unhide HA).trans ((unhide HAL).trans ((Aft.of_grown (unhide G3) (by simp; omega)).trans (Aft.of_below hbl)))⟩
            have h1 := ((unhide O3).stored (i * 2) (.string L[j].1)).1
            have h2 := (h1.stored (i * 2 + 1) (.string L[j].2)).1
            rw [fldV_set] at h2
            exact h2
          case measure => simp [intOf]; omega
        · go_wp2_with (go_at_fn g; refine ((unhide hc) _ ((unhide hi2) _) (by simp; omega)).mono ?_; rintro e w2 ⟨rfl, hi3, hg3⟩; have H3 := hide hi3; have G3 := hide hg3; have O3 := hide ((unhide HC).row ((unhide HO).alloc _) hg3); have x1 := hg3.cell (a := ⟨wr.heap.size, 0, none⟩) (v := .string L[j].1) (by simp) hrne; have x2 := hg3.cell (a := ⟨wr.heap.size, 1, none⟩) (v := .string L[j].2) (by simp) hrne; have y1 := (own_fld (unhide O3) hrl i (by omega)).1; have y2 := (own_fld (unhide O3) hrl i (by omega)).2; have f1 := (unhide O3).frozenAt (i * 2); have f2 := (unhide O3).frozenAt (i * 2 + 1); clear hi3 hg3)
          go_roundw
          case rel => (repeat apply Exists.intro); refine ⟨?_, rfl⟩; exact ⟨i, j + 1, R, rfl, by go_num, (unhide HM).skip hlt hst, unhide O3, by rw [runS_take step s L j hlt]; exact unhide H3, (unhide HA).trans ((unhide HAL).trans (Aft.of_grown (unhide G3) (by simp; omega)))⟩
          case measure => simp [intOf]; omega
      · have ej : j = L.length := by omega
        subst ej
        clear hm hown haft
        have HI9 := hide hi
        clear hi
        have hcl : ∀ q, q < (L.length - i) * 2 → (wr.cell? ⟨gb, i * 2 + q, none⟩).isSome = true := fun q hq => by
          rw [(unhide HO).cellAt (i * 2 + q) (by omega), List.getElem?_eq_getElem (by rw [fldV_len, hrl]; omega)]; rfl
        have HCL := hide hcl
        have hz0 : 0 < L.length - i := by omega
        have hti : (((L.length : Nat) : Int) - ((i : Nat) : Int)).toNat = L.length - i := by omega
        obtain ⟨l, hl⟩ := run_clear (P := Tryz.prog) (w := wr) (ty := 0) 22 30 (.agg #[.string ⟨#[]⟩, .string ⟨#[]⟩]) Tryz.underlying22 zeroFld (by intro u hu; simp [Value.cells] at hu; subst hu; rfl) (by decide) gb (i * 2) (L.length - i) (cp - i) hz0 (unhide HCL) (fun q _ => (unhide HO).frozenAt _)
        obtain ⟨_, _, ecp, hcp, _⟩ := Rd.own (unhide HO)
        have hcp2 : L.length ≤ cp := by injection ecp with _ _ e3; omega
        have hne : ¬ cp = i := by omega
        have hlt3 : i < cp := by omega
        obtain ⟨ys, hy, hown2, hgr⟩ := own_setCells l (i * 2) wr _ (unhide HO)
        have HY := Lib.hid hy
        have HO2 := hide hown2
        have HG2 := hide hgr
        clear hcl ecp hcp hy hown2 hgr
        have hdn := hide (unhide HM).done
        go_wp2_with fail
        go_ret
        have e1 : (keepF step s L).length = i := by rw [← unhide hdn, List.length_take, hrl]; omega
        have e2 : ys.take (i * 2) = fldV (keepF step s L) := by rw [HY.out, fldV_take, unhide hdn]
        have hcut := own_cut (unhide HO2) (i := i) (by omega)
        rw [e2] at hcut
        have hbl : Below B wr (wr.setCells gb (i * 2) l) := (Below.refl _ _).grown (unhide HG2) hBw (fun q hq => by cases hq; exact hgB)
        refine ⟨_, rfl, by rw [e1]; exact hcut, (unhide HC).turn _ _ _ ?_ hbl, (unhide HA).trans (Aft.of_below hbl)⟩
        have := unhide HI9
        rwa [List.take_length] at this
end Go.Proofs.YtfohhhdebinikaaGreatDoor.Sp
