/- token.table: what each byte is. -/
import Derived.Test.YtfkobhagdjaleaaGreatDoorB2
namespace Go.Proofs.YtfkobhagdjaleaaGreatDoor.Sp
open Go.RowKit

theorem below_setCells {B : Nat} {a : World} (b : Nat) (hB : B ≤ b) : ∀ (vs : List Value) (o : Nat) (w : World), Below B a w → Below B a (w.setCells b o vs)
  | [], _, _, h => h
  | v :: vs, o, _, h => below_setCells b hB vs (o + 1) _ (h.setCell (p := ⟨b, o, none⟩) hB v)
theorem has_setCells {w : World} {b n : Nat} {vs : List Value} (hn : n = vs.length) (ht : w.there b 0 n) (hlt : b < w.heap.size) (hs : ∀ o (w : World), (w.setCells b o vs).heap.size = w.heap.size) : Reg.Has (w.setCells b 0 vs) b vs := by
  subst hn
  refine ⟨fun i v hv => ?_, fun i hi => ?_, by rw [hs]; exact hlt⟩
  · have := World.rangeAt_setCells_same w b 0 vs ht i v hv
    rwa [Nat.zero_add] at this
  · rw [World.frozen?_setCells]
    have := (ht i hi).2
    rwa [Nat.zero_add] at this
theorem size_setCells (b : Nat) : ∀ (vs : List Value) (o : Nat) (w : World), (w.setCells b o vs).heap.size = w.heap.size
  | [], _, _ => rfl
  | v :: vs, o, w => by
    show ((w.setCell ⟨b, o, none⟩ v).setCells b (o + 1) vs).heap.size = _
    rw [size_setCells b vs (o + 1)]
    simp [World.setCell]
theorem has_range {w : World} {b : Nat} {vs : List Value} (h : Reg.Has w b vs) : w.rangeAt b 0 vs := fun j v hv => by rw [Nat.zero_add]; exact h.cell j v hv
theorem has_there {w : World} {b : Nat} {vs : List Value} (h : Reg.Has w b vs) : w.there b 0 vs.length := fun j hj => by
  rw [Nat.zero_add]
  exact ⟨by rw [h.cell j _ (List.getElem?_eq_getElem hj)]; rfl, h.free j hj⟩

def signs : List UInt8 := [33, 35, 36, 37, 38, 39, 42, 43, 45, 46, 94, 95, 96, 124, 126]
def idx (k : Nat) : Int := Lib.indexByte signs k.toUInt8
/-- a token's byte -/
def tB (k : Nat) : Bool := (decide (48 ≤ k) && decide (k ≤ 57)) || (decide (97 ≤ k) && decide (k ≤ 122)) || (decide (65 ≤ k) && decide (k ≤ 90)) || decide (0 ≤ idx k)
/-- a value's byte -/
def cB (k : Nat) : Bool := decide (k = 9) || (decide (32 ≤ k) && decide (k ≤ 126)) || decide (128 ≤ k)
def kindOf (k : Nat) : Int := (if tB k then 1 else 0) + (if cB k then 2 else 0)
/-- the table behind k rounds -/
@[irreducible] def tbl (k : Nat) : List Value := (List.range 256).map fun i => .int .u8 (if i < k then kindOf i else 0)
def tblArr : Array Value := (tbl 256).toArray
def zeroArr : Array Value := (tbl 0).toArray

theorem tbl_get (k i : Nat) (h : i < 256) : (tbl k)[i]? = some (.int .u8 (if i < k then kindOf i else 0)) := by
  unfold tbl
  rw [List.getElem?_map, List.getElem?_range h]
  rfl
theorem tbl_len (k : Nat) : (tbl k).length = 256 := by simp [tbl]
theorem tbl_set (k : Nat) (h : k < 256) : (tbl k).set k (.int .u8 (kindOf k)) = tbl (k + 1) := by
  apply List.ext_getElem?
  intro i
  by_cases hi : i < 256
  · by_cases hik : k = i
    · subst hik
      rw [List.getElem?_set_self (by rw [tbl_len]; exact h), tbl_get _ _ h, if_pos (by omega)]
    · rw [List.getElem?_set_ne hik, tbl_get _ _ hi, tbl_get _ _ hi]
      have e : (i < k) = (i < k + 1) := by apply propext; omega
      rw [show (if i < k then kindOf i else 0) = (if i < k + 1 then kindOf i else 0) by split <;> split <;> first | rfl | omega]
  · rw [List.getElem?_eq_none (by rw [List.length_set, tbl_len]; omega), List.getElem?_eq_none (by rw [tbl_len]; omega)]
theorem tbl_same (k : Nat) (h : k < 256) (h0 : kindOf k = 0) : tbl k = tbl (k + 1) := by
  rw [← tbl_set k h, h0]
  apply List.ext_getElem?
  intro i
  by_cases hik : k = i
  · subst hik
    rw [List.getElem?_set_self (by rw [tbl_len]; exact h), tbl_get _ _ h, if_neg (by omega)]
  · rw [List.getElem?_set_ne hik]
theorem zero_value (w : World) : (zeroValue 81).run Tryz.prog w = .ok (.agg zeroArr) w := by kernel_rfl

theorem idx_any (k : Nat) (w : World) : Calls Tryz.prog 36 #[.string ⟨#[33, 35, 36, 37, 38, 39, 42, 43, 45, 46, 94, 95, 96, 124, 126]⟩, .int .u8 (k : Int)] w fun e w' => e = .returned (.int .i64 (idx k)) ∧ w = w' := by
  refine (Tryz.strings_IndexByte _ _ _).mono ?_
  rintro e w' ⟨rfl, rfl⟩
  exact ⟨by rw [Int.toNat_natCast]; rfl, rfl⟩

theorem or1 : bits BinOp.or IntKind.u8 0 1 = 1 := by kernel_rfl
theorem or2 : bits BinOp.or IntKind.u8 0 2 = 2 := by kernel_rfl
theorem or3 : bits BinOp.or IntKind.u8 1 2 = 3 := by kernel_rfl
theorem kind_of {k : Nat} {t c : Bool} {n : Int} (ht : tB k = t) (hc : cB k = c) (hn : n = (if t then 1 else 0) + (if c then 2 else 0)) : kindOf k = n := by
  unfold kindOf; rw [ht, hc, hn]
theorem tB_yes {k : Nat} (h : (48 ≤ k ∧ k ≤ 57) ∨ (97 ≤ k ∧ k ≤ 122) ∨ (65 ≤ k ∧ k ≤ 90) ∨ 0 ≤ idx k) : tB k = true := by
  unfold tB; simp only [Bool.or_eq_true, Bool.and_eq_true, decide_eq_true_eq]; omega
theorem tB_no {k : Nat} (h : ¬ ((48 ≤ k ∧ k ≤ 57) ∨ (97 ≤ k ∧ k ≤ 122) ∨ (65 ≤ k ∧ k ≤ 90) ∨ 0 ≤ idx k)) : tB k = false := by
  rw [← Bool.not_eq_true]; unfold tB; simp only [Bool.or_eq_true, Bool.and_eq_true, decide_eq_true_eq]; omega
theorem cB_yes {k : Nat} (h : k = 9 ∨ (32 ≤ k ∧ k ≤ 126) ∨ 128 ≤ k) : cB k = true := by
  unfold cB; simp only [Bool.or_eq_true, Bool.and_eq_true, decide_eq_true_eq]; omega
theorem cB_no {k : Nat} (h : ¬ (k = 9 ∨ (32 ≤ k ∧ k ≤ 126) ∨ 128 ≤ k)) : cB k = false := by
  rw [← Bool.not_eq_true]; unfold cB; simp only [Bool.or_eq_true, Bool.and_eq_true, decide_eq_true_eq]; omega


theorem tB_iff (k : Nat) : tB k = true ↔ ((48 ≤ k ∧ k ≤ 57) ∨ (97 ≤ k ∧ k ≤ 122) ∨ (65 ≤ k ∧ k ≤ 90) ∨ 0 ≤ idx k) := by
  unfold tB; simp only [Bool.or_eq_true, Bool.and_eq_true, decide_eq_true_eq]; omega
theorem cB_iff (k : Nat) : cB k = true ↔ (k = 9 ∨ (32 ≤ k ∧ k ≤ 126) ∨ 128 ≤ k) := by
  unfold cB; simp only [Bool.or_eq_true, Bool.and_eq_true, decide_eq_true_eq]; omega
theorem eq_t {b : Bool} (h : b = true) : Value.bool true = .bool b := by rw [h]
theorem eq_tB {k : Nat} {p : Prop} [Decidable p] (h : p ↔ ((48 ≤ k ∧ k ≤ 57) ∨ (97 ≤ k ∧ k ≤ 122) ∨ (65 ≤ k ∧ k ≤ 90) ∨ 0 ≤ idx k)) : Value.bool (decide p) = .bool (tB k) := by
  congr 1; rw [Bool.eq_iff_iff, decide_eq_true_iff, tB_iff]; exact h
theorem eq_cB {k : Nat} {p : Prop} [Decidable p] (h : p ↔ (k = 9 ∨ (32 ≤ k ∧ k ≤ 126) ∨ 128 ≤ k)) : Value.bool (decide p) = .bool (cB k) := by
  congr 1; rw [Bool.eq_iff_iff, decide_eq_true_iff, cB_iff]; exact h

set_option maxRecDepth 100000 in
set_option maxHeartbeats 4000000 in
theorem table_any (w : World) : Calls Tryz.prog 80 #[] w fun e w' => e = .returned (.agg tblArr) ∧ Below w.heap.size w w' := by
  have hz := zero_value
  go_enter Tryz.func80, Tryz.ntmps80
  go_wp2_with fail
  have HB := Reg.Has.at w w.heap.size (tbl 0) 81 rfl
  have hbel : Below w.heap.size w (w.alloc (.cells zeroArr 81)) := (Below.refl _ _).alloc (Nat.le_refl _) _
  go_loopg [3] 256 (fun g i wr => ∃ k : Nat, k + g = 256 ∧ i = .int .i64 k ∧ Reg.Has wr w.heap.size (tbl k) ∧ Below w.heap.size w wr)
  case atStart => exact ⟨0, by omega, rfl, HB, hbel⟩
  case round =>
    clear HB hbel hz
    obtain ⟨k, hk, rfl, HB, bel⟩ := hrel
    by_cases hlt : k < 256
    · obtain ⟨g', rfl⟩ : ∃ g', gk = g' + 1 := ⟨gk - 1, by omega⟩
      have c0 := HB.cell k _ (tbl_get k k hlt)
      have f0 := HB.free k (by rw [tbl_len]; exact hlt)
      rw [if_neg (by omega)] at c0
      have zB := HB.lt
      go_upto_region 5 with fail
      go_cut [34] (fun t wc => t = .bool (tB k) ∧ wr = wc)
      case first =>
        clear c0 f0 zB HB bel
        go_wp2_with (go_at_call 36; refine (idx_any _ _).mono ?_; rintro e w' ⟨rfl, rfl⟩)
        all_goals go_meet
        all_goals refine ⟨?_, rfl⟩
        all_goals first | (with_reducible refine eq_t ?_; rw [tB_iff]; omega) | (with_reducible refine eq_tB ?_; omega)
      case rest =>
        obtain ⟨rfl, rfl⟩ := hcut
        cases ht : tB k
        · go_upto_region 7 with fail
          go_cut [53] (fun t wc => t = .bool (cB k) ∧ wr = wc)
          case first =>
            clear c0 f0 zB HB bel ht
            go_wp2_with fail
            all_goals go_meet
            all_goals refine ⟨?_, rfl⟩
            all_goals first | (with_reducible refine eq_t ?_; rw [cB_iff]; omega) | (with_reducible refine eq_cB ?_; omega)
          case rest =>
            obtain ⟨rfl, rfl⟩ := hcut
            have o2 := or2
            cases hc : cB k
            · go_wp2
              go_roundg g'
              case measure => omega
              case rel => exact ⟨k + 1, by omega, by go_num, by rw [← tbl_same k hlt (kind_of ht hc rfl)]; exact HB, bel⟩
            · go_wp2
              go_roundg g'
              case measure => omega
              case rel => exact ⟨k + 1, by omega, by go_num, by rw [← tbl_set k hlt, kind_of ht hc (n := 2) rfl]; exact HB.put k _, bel.setCell (by simp) _⟩
        · have o1 := or1
          have o3 := or3
          go_upto_region 7 with fail
          go_cut [53] (fun t wc => t = .bool (cB k) ∧ wr.setCell ⟨w.heap.size, k, none⟩ (.int .u8 1) = wc)
          case first =>
            clear c0 f0 zB HB bel ht
            go_wp2_with fail
            all_goals go_meet
            all_goals refine ⟨?_, rfl⟩
            all_goals first | (with_reducible refine eq_t ?_; rw [cB_iff]; omega) | (with_reducible refine eq_cB ?_; omega)
          case rest =>
            obtain ⟨rfl, rfl⟩ := hcut
            cases hc : cB k
            · go_wp2
              go_roundg g'
              case measure => omega
              case rel => exact ⟨k + 1, by omega, by go_num, by rw [← tbl_set k hlt, kind_of ht hc (n := 1) rfl]; exact HB.put k _, bel.setCell (by simp) _⟩
            · go_wp2
              go_roundg g'
              case measure => omega
              case rel =>
                refine ⟨k + 1, by omega, by go_num, ?_, (bel.setCell (by simp) _).setCell (by simp) _⟩
                rw [← tbl_set k hlt, kind_of ht hc (n := 3) rfl]
                have H8 := (HB.put k (.int .u8 1)).put k (.int .u8 3)
                rw [List.set_set] at H8
                exact H8
    · have hke : k = 256 := by omega
      subst hke
      have hi : (Tryz.prog.info? 81).map (·.size) = some (tbl 256).length := by rw [tbl_len]; kernel_rfl
      have hi2 : (Tryz.prog.info? 81).map (·.size) = some tblArr.size := by unfold tblArr; rw [List.size_toArray]; exact hi
      have hr := has_range HB
      have ht : wr.there w.heap.size 0 tblArr.size := by have := has_there HB; unfold tblArr; rw [List.size_toArray]; exact this
      have ho : tblArr.all (·.oneCell') = true := by kernel_rfl
      have HI := Lib.hid hi
      have HI2 := Lib.hid hi2
      have HR := hide hr
      have HT := hide ht
      have HO := Lib.hid ho
      clear hi hi2 hr ht ho
      go_wp2_with (first
        | (refine wpList_load_mid rfl 81 _ rfl w.heap.size 0 rfl (tbl 256) _ (unhide HR) Tryz.underlying81 rfl HI.out ?_)
        | (refine wpList_store_mid rfl 81 _ _ rfl w.heap.size 0 tblArr rfl rfl (unhide HT) HI2.out HO.out ?_))
      have hra := World.rangeAt_setCells_same wr w.heap.size 0 tblArr.toList (unhide HT)
      have hl := run_loadVar_mid (P := Tryz.prog) (wr.setCells w.heap.size 0 tblArr.toList) w.heap.size 0 81 tblArr.toList _ hra Tryz.underlying81 rfl HI2.out
      have e : tblArr.toList.toArray = tblArr := rfl
      rw [e] at hl
      exact bodyPost_ret (Mem.results_cell1 (ad := ⟨w.heap.size, 0, none⟩) Tryz.results80 rfl hl) rfl ⟨rfl, below_setCells _ (Nat.le_refl _) _ _ _ bel⟩
end Go.Proofs.YtfkobhagdjaleaaGreatDoor.Sp
