/- Lemmas for the statement's proof, several texts in one: O6, O7, T1, T2, S1, T6, S2. -/
import Derived.Test.YtbpopmbabckojaaGreatDoorZ03
import Derived.Deep.CutRange
import Derived.Test.YtbpopmbabckojaaGreatDoorZ01
import Derived.Lib.ParseIntBCases
import Derived.Lib.SlTrimSet
import Derived.Shelf.Strings.SlTrimAscii
import Derived.Test.YtbpopmbabckojaaGreatDoorZ02
import Derived.Lib.AppendIntMem
import Derived.Lib.LaidTab
/- The library's byteStringReplacer, its table as token.Quote's: what Replace makes. -/
namespace Go.Proofs.YtbpopmbabckojaaGreatDoor.Sp
open Go.RowKit Sl

/-- what a reader of the table meets -/
structure TabAt (w : World) (t bA cA bC cC gv cv : Nat) : Prop where
  tab : Reg.Has w t (tabL (.slice (some ⟨bA, 0, none⟩) 2 cA) (.slice (some ⟨bC, 0, none⟩) 2 cC) (.slice (some ⟨gv, 0, none⟩) 2 cv))
  A : Reg.Has w bA (Mem.bytesV [92, 34])
  C : Reg.Has w bC (Mem.bytesV [92, 92])
  v0 : w.cell? ⟨gv, 0, none⟩ = some (.string ⟨#[92]⟩)
  v1 : w.cell? ⟨gv, 1, none⟩ = some (.string ⟨#[34]⟩)
theorem TabAt.call {w w' : World} {t bA cA bC cC gv cv : Nat} (h : TabAt w t bA cA bC cC gv cv) (hb : Below w.heap.size w w') : TabAt w' t bA cA bC cC gv cv :=
  ⟨h.tab.call hb, h.A.call hb, h.C.call hb, (hb.cell (p := ⟨gv, 0, none⟩) (World.block_lt_of_cell? w _ h.v0)).trans h.v0, (hb.cell (p := ⟨gv, 1, none⟩) (World.block_lt_of_cell? w _ h.v1)).trans h.v1⟩
theorem RepTab.at {B : Nat} {w : World} {t : Nat} (h : RepTab B w t) : ∃ bA cA bC cC gv cv, TabAt w t bA cA bC cC gv cv := by
  obtain ⟨_, A, C, v, h1, ⟨b2, c2, rfl, _, h2⟩, ⟨b3, c3, rfl, _, h3⟩, h4⟩ := h
  obtain ⟨gv, cv, rfl, _, _⟩ := World.ownsRow.form h4 (by decide)
  exact ⟨b2, c2, b3, c3, gv, cv, h1, h2, h3, h4.cellAt 0 (by decide), h4.cellAt 1 (by decide)⟩
section
variable {w : World} {t bA cA bC cC gv cv : Nat} (h : TabAt w t bA cA bC cC gv cv)
include h
theorem TabAt.list : w.cell? ⟨t, 256, none⟩ = some (.slice (some ⟨gv, 0, none⟩) 2 cv) := h.tab.cell 256 _ (tabL_S _ _ _)
theorem TabAt.q : w.cell? ⟨t, 34, none⟩ = some (.slice (some ⟨bA, 0, none⟩) 2 cA) := h.tab.cell 34 _ (tabL_A _ _ _)
theorem TabAt.b : w.cell? ⟨t, 92, none⟩ = some (.slice (some ⟨bC, 0, none⟩) 2 cC) := h.tab.cell 92 _ (tabL_B _ _ _)
theorem TabAt.no (c : UInt8) (hc : spec c = false) : w.cell? ⟨t, c.toNat, none⟩ = some (.slice none 0 0) := by
  rw [spec_nat] at hc
  simp at hc
  exact h.tab.cell c.toNat _ (tabL_no _ _ _ _ c.toNat_lt (by omega) (by omega))
end
theorem spec_cases {c : UInt8} (h : spec c = true) : c.toNat = 34 ∨ c.toNat = 92 := by
  rw [spec_nat] at h
  simp at h
  omega

set_option maxRecDepth 100000 in
set_option maxHeartbeats 4000000 in
theorem bsr_any (B t : Nat) (s : ByteArray) (hs : s.size ≤ 1000000) (w : World) (hr : RepTab B w t) :
    Calls Tryz.prog 221 #[.pointer (some ⟨t, 0, none⟩), .string s] w fun e w' => e = .returned (.string ⟨(esc s.data.toList).toArray⟩) ∧ Below w.heap.size w w' := by
  obtain ⟨bA, cA, bC, cC, gv, cv, hT⟩ := hr.at
  obtain ⟨nx, hnx⟩ : ∃ nx, extra s.data.toList = nx := ⟨_, rfl⟩
  have hxl : nx ≤ s.size := by rw [← hnx]; have := extra_le s.data.toList; simpa using this
  obtain ⟨an, han⟩ : ∃ an, decide (0 < nx) = an := ⟨_, rfl⟩
  have HT := hide hT
  have HNX := Lib.hid hnx
  have HAN := Lib.hid han
  have zt := hT.tab.lt
  have zv := World.block_lt_of_cell? w _ hT.v0
  clear hT hr hnx han
  obtain ⟨r, hr⟩ : ∃ r : ByteArray, (⟨(esc s.data.toList).toArray⟩ : ByteArray) = r := ⟨_, rfl⟩
  rw [hr]
  have hrl : r.data.toList = esc s.data.toList := by rw [← hr]
  have HRL := Lib.hid hrl
  clear hr hrl
  go_enter Tryz.func221, Tryz.ntmps221
  have tS := (unhide HT).list
  go_upto_if 26 with fail
  go_cut [5, 6] (fun n any wc => n = .int .i64 ↑(s.size + nx) ∧ any = .bool an ∧ Below w.heap.size w wc)
  case first =>
    rcases Nat.lt_or_ge s.size 16 with h16 | h16
    · go_wp2_with fail
      go_loopw [5, 6, 10] (fun n any i wr => ∃ k : Nat, k ≤ s.size ∧ i = .int .i64 k ∧ n = .int .i64 ↑(s.size + extra (s.data.toList.take k)) ∧ any = .bool (decide (0 < extra (s.data.toList.take k))) ∧ Below w.heap.size w wr) (fun _ _ i _ => s.size - (intOf i).toNat)
      case atStart => exact ⟨0, Nat.zero_le _, rfl, rfl, rfl, Below.refl _ _⟩
      case round =>
        obtain ⟨k, hk, rfl, rfl, rfl, hbel⟩ := hrel
        have HB := hide hbel
        have hT := (unhide HT).call hbel
        have hle := extra_take_le s.data.toList k
        rw [HNX.out] at hle
        rcases Nat.lt_or_ge k s.size with hlt | hge
        · have hst := extra_take s k hlt
          obtain ⟨m, hm⟩ : ∃ m, extra (s.data.toList.take k) = m := ⟨_, rfl⟩
          rw [hm] at hst hle ⊢
          obtain ⟨a0, ha0⟩ : ∃ a0, decide (0 < m) = a0 := ⟨_, rfl⟩
          rw [ha0]
          have HA0 := Lib.hid ha0
          have HST := Lib.hid hst
          have hc256 := s[k].toNat_lt
          have ztr := hT.tab.lt
          clear hm ha0 hst hbel
          cases hsp : spec s[k]
          · have eN := hT.no s[k] hsp
            have hnn := nil_neq
            have HSP := Lib.hid hsp
            have HTT := hide hT
            clear hsp hT
            go_wp2_with fail
            go_roundw
            case rel => exact ⟨k + 1, by omega, by go_num, by rw [HST.out, HSP.out]; rfl, by rw [HST.out, HSP.out, ← HA0.out]; rfl, unhide HB⟩
            case measure => simp [intOf]; omega
          · have hsp2 := spec_cases hsp
            have HSP := Lib.hid hsp
            clear hsp
            rcases hsp2 with h34 | h34
            · have eN := hT.q
              have hnn := nil_neq_no
              clear hT
              go_wp2_with fail
              go_roundw
              case rel => exact ⟨k + 1, by omega, by go_num, by rw [HST.out, HSP.out]; go_num, by rw [HST.out, HSP.out]; simp, unhide HB⟩
              case measure => simp [intOf]; omega
            · have eN := hT.b
              have hnn := nil_neq_no
              clear hT
              go_wp2_with fail
              go_roundw
              case rel => exact ⟨k + 1, by omega, by go_num, by rw [HST.out, HSP.out]; go_num, by rw [HST.out, HSP.out]; simp, unhide HB⟩
              case measure => simp [intOf]; omega
        · have hT2 : s.data.toList.take k = s.data.toList := List.take_of_length_le (by simpa using hge)
          rw [hT2, HNX.out, HAN.out]
          clear hT hbel hT2 hle
          go_wp2_with fail
          go_meet
          exact ⟨rfl, rfl, unhide HB⟩
    · have hx := extra_count s.data.toList
      rw [HNX.out] at hx
      obtain ⟨a, ha⟩ : ∃ a, s.data.toList.count 92 = a := ⟨_, rfl⟩
      obtain ⟨b, hb⟩ : ∃ b, s.data.toList.count 34 = b := ⟨_, rfl⟩
      have hcA := fun w => Tryz.strings_Count_one s 92 w
      have hcB := fun w => Tryz.strings_Count_one s 34 w
      unfold Lib.countByte at hcA hcB
      rw [ha] at hx hcA
      rw [hb] at hx hcB
      have HX := Lib.hid hx
      have HCA := hide hcA
      have HCB := hide hcB
      have hal : a + b ≤ s.size := by omega
      clear ha hb hx hcA hcB
      go_wp2_with fail
      go_loopw [5, 6, 32] (fun n any i wr => ((i = .int .i64 0 ∧ n = .int .i64 ↑s.size ∧ any = .bool false) ∨ (i = .int .i64 1 ∧ n = .int .i64 (↑s.size + ↑a) ∧ any = .bool (decide (0 < a))) ∨ (i = .int .i64 2 ∧ n = .int .i64 (↑s.size + ↑a + ↑b) ∧ any = .bool an)) ∧ Below w.heap.size w wr) (fun _ _ i _ => 2 - (intOf i).toNat)
      case atStart => exact ⟨.inl ⟨rfl, rfl, rfl⟩, Below.refl _ _⟩
      case round =>
        obtain ⟨hrel, hbel⟩ := hrel
        have HB := hide hbel
        have hT := (unhide HT).call hbel
        have tS := hT.list
        have ztr := hT.tab.lt
        have zvr := World.block_lt_of_cell? _ _ hT.v0
        rcases hrel with ⟨rfl, rfl, rfl⟩ | ⟨rfl, rfl, rfl⟩ | ⟨rfl, rfl, rfl⟩
        · have eX := hT.v0
          have ec := hT.b
          have hcw : IntKind.i64.wrap (↑a) = ↑a := IntWalk.i64_in _ (by omega)
          have hcw2 : IntKind.i64.wrap (↑s.size + ↑a) = ↑s.size + ↑a := IntWalk.i64_in _ (by omega)
          have hlit : (⟨#[92]⟩ : ByteArray)[0].toNat = 92 := rfl
          clear hT hbel
          rcases Nat.eq_zero_or_pos a with h0 | h0
          · have hcc := fun w => (unhide HCA) w
            rw [h0] at hcc
            have HC := hide hcc
            have H0 := Lib.hid h0
            clear hcc h0
            go_wp2_with (go_at_call 223; refine (unhide HC _).mono ?_; rintro e w' ⟨rfl, rfl⟩)
            go_roundw
            case rel => exact ⟨.inr (.inl ⟨rfl, by rw [H0.out]; simp, by rw [H0.out]; rfl⟩), unhide HB⟩
            case measure => simp [intOf]
          · have HC := hide (unhide HCA)
            have hne : ((a : Int) != 0) = true := by rw [bne_iff_ne]; omega
            have H0 := hide h0
            go_upto_region 9 with (go_at_call 223; refine (unhide HC _).mono ?_; rintro e w' ⟨rfl, rfl⟩)
            refine Reg.region_more (by kernel_rfl) (by kernel_rfl) ?_
            repeat (go_big_quiet_step (fail))
            refine wpQuiet_nil ?_
            intro w9 hb9; obtain ⟨hc9, hf9, hz9⟩ := bcell hb9; (try simp at hz9)
            have HB9 := hide ((unhide HB).trans (hb9.mono (unhide HB).size))
            clear hb9 hc9 hf9
            go_wp2_with fail
            go_roundw
            case rel => exact ⟨.inr (.inl ⟨rfl, by first | rfl | go_num, by rw [decide_eq_true (unhide H0)]⟩), unhide HB9⟩
            case measure => simp [intOf]
        · have eX := hT.v1
          have ec := hT.q
          have hcw : IntKind.i64.wrap (↑b) = ↑b := IntWalk.i64_in _ (by omega)
          have hcw2 : IntKind.i64.wrap ((↑s.size + ↑a) + ↑b) = (↑s.size + ↑a) + ↑b := IntWalk.i64_in _ (by omega)
          have hlit : (⟨#[34]⟩ : ByteArray)[0].toNat = 34 := rfl
          clear hT hbel
          rcases Nat.eq_zero_or_pos b with h0 | h0
          · have hcc := fun w => (unhide HCB) w
            rw [h0] at hcc
            have HC := hide hcc
            have H0 := Lib.hid h0
            clear hcc h0
            go_wp2_with (go_at_call 223; refine (unhide HC _).mono ?_; rintro e w' ⟨rfl, rfl⟩)
            go_roundw
            case rel => exact ⟨.inr (.inr ⟨rfl, by rw [H0.out]; simp, by rw [← HAN.out, HX.out, H0.out]; rfl⟩), unhide HB⟩
            case measure => simp [intOf]
          · have HC := hide (unhide HCB)
            have hne : ((b : Int) != 0) = true := by rw [bne_iff_ne]; omega
            have H0 := hide h0
            go_upto_region 9 with (go_at_call 223; refine (unhide HC _).mono ?_; rintro e w' ⟨rfl, rfl⟩)
            refine Reg.region_more (by kernel_rfl) (by kernel_rfl) ?_
            repeat (go_big_quiet_step (fail))
            refine wpQuiet_nil ?_
            intro w9 hb9; obtain ⟨hc9, hf9, hz9⟩ := bcell hb9; (try simp at hz9)
            have HB9 := hide ((unhide HB).trans (hb9.mono (unhide HB).size))
            clear hb9 hc9 hf9
            go_wp2_with fail
            go_roundw
            case rel => exact ⟨.inr (.inr ⟨rfl, by first | rfl | go_num, by rw [← HAN.out, HX.out, decide_eq_true (by have := unhide H0; omega)]⟩), unhide HB9⟩
            case measure => simp [intOf]
        · clear hT hbel
          have hsum : (↑(s.size + nx) : Int) = ↑s.size + ↑a + ↑b := by rw [HX.out]; omega
          have HSUM := Lib.hid hsum
          clear hsum
          go_wp2_with fail
          go_meet
          exact ⟨by rw [HSUM.out], rfl, unhide HB⟩
  case rest =>
    obtain ⟨rfl, rfl, hbel⟩ := hcut
    have HB := hide hbel
    clear hbel
    cases an
    · have hs2 : s = r := by
        have h0 : nx = 0 := by have := HAN.out; simpa using this
        have h1 := esc_none s.data.toList (by rw [HNX.out, h0])
        rw [ba_eq HRL.out, h1]
      subst hs2
      go_wp2_with fail
      go_ret
      exact ⟨rfl, unhide HB⟩
    · obtain ⟨N, hN⟩ : ∃ N, s.size + nx = N := ⟨_, rfl⟩
      rw [hN]
      have hN2 : N ≤ 2000000 := by omega
      obtain ⟨w1, hmk, hrow, hb1⟩ := make_bytes wc N (by omega)
      have HROW := hide hrow
      have HB1 := hide ((unhide HB).trans (hb1.mono (unhide HB).size))
      have hgB := (unhide HB).size
      clear hrow hb1
      generalize wc.heap.size = g at *
      go_wp2_with fail
      clear hmk
      go_loopw [13, 14] (fun j i wr => ∃ (k : Nat) (L : List UInt8), k ≤ s.size ∧ i = .int .i64 k ∧ j = .int .i64 ↑(esc (s.data.toList.take k)).length ∧ RowB wr g L ∧ L.length = N ∧ L.take (esc (s.data.toList.take k)).length = esc (s.data.toList.take k) ∧ Below w.heap.size w wr) (fun _ i _ => s.size - (intOf i).toNat)
      case atStart => exact ⟨0, _, Nat.zero_le _, rfl, rfl, unhide HROW, List.length_replicate, rfl, unhide HB1⟩
      case round =>
        obtain ⟨k, L, hk, rfl, rfl, hrow, hL, htk, hbel⟩ := hrel
        have HB2 := hide hbel
        have hT := (unhide HT).call hbel
        have hjl := esc_len (s.data.toList.take k)
        rw [take_len s k hk] at hjl
        rcases Nat.lt_or_ge k s.size with hlt | hge
        · have hst := extra_take s k hlt
          have hnx := extra_take_le s.data.toList (k + 1)
          rw [HNX.out, hst] at hnx
          have het := esc_take s k hlt
          obtain ⟨pre, hpre⟩ : ∃ pre, esc (s.data.toList.take k) = pre := ⟨_, rfl⟩
          rw [hpre] at het htk hjl ⊢
          obtain ⟨j, hj⟩ : ∃ j, pre.length = j := ⟨_, rfl⟩
          rw [hj] at htk hjl ⊢
          have HTK := Lib.hid htk
          have HET := Lib.hid het
          have HJ := Lib.hid hj
          have HL := Lib.hid hL
          have hc256 := s[k].toNat_lt
          have ztr := hT.tab.lt
          have zgr := hrow.has.lt
          have HROW2 := hide hrow
          clear hpre hj het htk hbel
          cases hsp : spec s[k]
          · rw [hsp] at hnx
            have eN := hT.no s[k] hsp
            have hnn := nil_neq
            have hesc : escC s[k] = [s[k]] := by unfold escC; rw [if_neg (by rw [hsp]; decide)]
            have HESC := Lib.hid hesc
            have hjN : j < N := by simp at hnx; omega
            obtain ⟨x, ec⟩ : ∃ x : Int, wr.cell? ⟨g, j, none⟩ = some (.int .u8 x) := ⟨_, hrow.has.cell j _ (Mem.bytesV_get L j (by rw [hL]; exact hjN))⟩
            have fc := hrow.has.free j (by rw [Mem.bytesV_len, hL]; exact hjN)
            clear hsp hT hesc hst hnx hjl hrow hL
            go_wp2_with fail
            go_roundw
            case rel =>
              refine ⟨k + 1, L.set j s[k], by omega, by go_num, ?_, (unhide HROW2).set j s[k], by rw [List.length_set]; exact HL.out, ?_, (unhide HB2).setCell hgB _⟩
              · rw [HET.out, HESC.out, List.length_append, HJ.out]; first | rfl | go_num
              · rw [HET.out, HESC.out, List.length_append, HJ.out]
                show (L.set j s[k]).take (j + 1) = _
                rw [set_take L j _ (by rw [HL.out]; exact hjN), HTK.out]
            case measure => simp [intOf]; omega
          · have hsp2 := spec_cases hsp
            rw [hsp] at hnx
            have hesc : escC s[k] = [92, s[k]] := by unfold escC; rw [if_pos hsp]
            have hjN : j + 1 < N := by simp at hnx; omega
            have hjN0 : ¬ N = j := by omega
            have hbel2 := unhide HB2
            have hrow2 := hrow
            clear hsp hst hnx hjl hrow hL
            rcases hsp2 with h34 | h34
            · have hs34 : s[k] = 34 := UInt8.toNat_inj.1 h34
              rw [hs34] at hesc
              have HESC := Lib.hid hesc
              have HS := Lib.hid hs34
              have eN := hT.q
              have hTT := hide hT
              have hnn := nil_neq_no
              clear hs34 hesc hT
              go_upto_region 28 with fail
              clear hnn
              refine Reg.region_more_barT 10 (by kernel_rfl) (by kernel_rfl) (by intro c a d v w h; cases d <;> exact h) ?_
              simp only [List.take_succ_cons, List.take_zero, List.drop_succ_cons, List.drop_zero]
              repeat (go_big_quiet_step (fail))
              refine wpQuiet_nil ?_
              intro w9 hb9; obtain ⟨hc9, hf9, hz9⟩ := bcell hb9; (try simp at hz9)
              have HB9 := hide ((unhide HB2).trans (hb9.mono (unhide HB2).size))
              have HR9 := (unhide HROW2).call hb9
              have HC9 := ((unhide hTT).call hb9)
              clear hc9 hf9
              refine wpList_copy_splice rfl (.tmp 105) (.tmp 111) 66 66 rfl 5 Tryz.underlying66 (by kernel_rfl) (some ⟨g, j, none⟩) (some ⟨bA, 0, none⟩) (N - j) (N - j) 2 cA rfl rfl g j (Mem.bytesV L) 5 HR9 (Mem.bytesV [92, 34]) (by rw [Mem.bytesV_len]; exact (Nat.min_eq_left (by show 2 ≤ N - j; omega)).symm) (fun _ => ⟨rfl, _, rfl, fun q y hy => by rw [Addr.add_mid, Nat.zero_add]; exact HC9.A.cell q y hy⟩) (by rw [Mem.bytesV_len, Mem.bytesV_len, HL.out]; show j + 2 ≤ N; omega) (by intro y hy; simp [Mem.bytesV] at hy; rcases hy with rfl | rfl <;> rfl) w.heap.size w (unhide HB9) hgB ?_
              intro w10 hrow10 hb10
              have hrow11 := hrow10.out
              rw [splice_map] at hrow11
              have HR10 : Hid (RowB w10 g (splice L j [92, 34])) := hide hrow11
              have hlen2 : (Mem.bytesV [92, 34]).length = 2 := rfl
              have HB10 := hide hb10
              clear hrow10 hrow11 hb10 HR9 HC9 hb9 hz9 eN hrow2 hbel2
              go_wp2_with fail
              go_roundw
              case rel =>
                refine ⟨k + 1, splice L j [92, 34], by omega, by go_num, ?_, unhide HR10, by rw [length_splice _ _ _ (by rw [HL.out]; show j + 2 ≤ N; omega)]; exact HL.out, ?_, unhide HB10⟩
                · rw [HET.out, HS.out, HESC.out, List.length_append, HJ.out]; first | rfl | go_num
                · rw [HET.out, HS.out, HESC.out, List.length_append, HJ.out]
                  rw [splice_take L j _ (by rw [HL.out]; show j + 2 ≤ N; omega), HTK.out]
              case measure => simp [intOf]; omega
            · have hs34 : s[k] = 92 := UInt8.toNat_inj.1 h34
              rw [hs34] at hesc
              have HESC := Lib.hid hesc
              have HS := Lib.hid hs34
              have eN := hT.b
              have hTT := hide hT
              have hnn := nil_neq_no
              clear hs34 hesc hT
              go_upto_region 28 with fail
              clear hnn
              refine Reg.region_more_barT 10 (by kernel_rfl) (by kernel_rfl) (by intro c a d v w h; cases d <;> exact h) ?_
              simp only [List.take_succ_cons, List.take_zero, List.drop_succ_cons, List.drop_zero]
              repeat (go_big_quiet_step (fail))
              refine wpQuiet_nil ?_
              intro w9 hb9; obtain ⟨hc9, hf9, hz9⟩ := bcell hb9; (try simp at hz9)
              have HB9 := hide ((unhide HB2).trans (hb9.mono (unhide HB2).size))
              have HR9 := (unhide HROW2).call hb9
              have HC9 := ((unhide hTT).call hb9)
              clear hc9 hf9
              refine wpList_copy_splice rfl (.tmp 105) (.tmp 111) 66 66 rfl 5 Tryz.underlying66 (by kernel_rfl) (some ⟨g, j, none⟩) (some ⟨bC, 0, none⟩) (N - j) (N - j) 2 cC rfl rfl g j (Mem.bytesV L) 5 HR9 (Mem.bytesV [92, 92]) (by rw [Mem.bytesV_len]; exact (Nat.min_eq_left (by show 2 ≤ N - j; omega)).symm) (fun _ => ⟨rfl, _, rfl, fun q y hy => by rw [Addr.add_mid, Nat.zero_add]; exact HC9.C.cell q y hy⟩) (by rw [Mem.bytesV_len, Mem.bytesV_len, HL.out]; show j + 2 ≤ N; omega) (by intro y hy; simp [Mem.bytesV] at hy; rcases hy with rfl | rfl <;> rfl) w.heap.size w (unhide HB9) hgB ?_
              intro w10 hrow10 hb10
              have hrow11 := hrow10.out
              rw [splice_map] at hrow11
              have HR10 : Hid (RowB w10 g (splice L j [92, 92])) := hide hrow11
              have hlen2 : (Mem.bytesV [92, 92]).length = 2 := rfl
              have HB10 := hide hb10
              clear hrow10 hrow11 hb10 HR9 HC9 hb9 hz9 eN hrow2 hbel2
              go_wp2_with fail
              go_roundw
              case rel =>
                refine ⟨k + 1, splice L j [92, 92], by omega, by go_num, ?_, unhide HR10, by rw [length_splice _ _ _ (by rw [HL.out]; show j + 2 ≤ N; omega)]; exact HL.out, ?_, unhide HB10⟩
                · rw [HET.out, HS.out, HESC.out, List.length_append, HJ.out]; first | rfl | go_num
                · rw [HET.out, HS.out, HESC.out, List.length_append, HJ.out]
                  rw [splice_take L j _ (by rw [HL.out]; show j + 2 ≤ N; omega), HTK.out]
              case measure => simp [intOf]; omega
        · have hT2 : s.data.toList.take k = s.data.toList := List.take_of_length_le (by simpa using hge)
          rw [hT2] at htk hjl
          have hLr : L = r.data.toList := by
            rw [HRL.out, ← htk, List.take_of_length_le]
            rw [hjl, HNX.out]; omega
          have hLN : L.length = N := hL
          have HLR := Lib.hid hLr
          have hrow2 := hrow
          clear hT hbel hT2 htk hjl hLr hrow hL
          have HAS := hide hrow2.has
          clear hrow2
          have hres : (⟨L.toArray⟩ : ByteArray) = r := by rw [HLR.out]
          have HRES := Lib.hid hres
          clear hres
          go_wp2_with (refine Mem.wpList_text rfl 66 9 5 _ rfl g N N L rfl Tryz.underlying66 Tryz.underlying9 Tryz.underlying5 hLN (unhide HAS) ?_)
          go_ret
          exact ⟨by first | rfl | (rw [HRES.out] <;> rfl), unhide HB2⟩
end Go.Proofs.YtbpopmbabckojaaGreatDoor.Sp

/- strings.Replacer.Replace at a fresh replacer of these two bytes; token.Quote. -/
namespace Go.Proofs.YtbpopmbabckojaaGreatDoor.Sp
open Go.RowKit Sl

theorem rdSet {w : World} {v : Value} {n sz : Nat} {xs : List Value} (h : Rd w v n sz xs) {a : Addr} {y : Value} (hc : w.cell? a = some y) (hne : ∀ u ∈ xs, u ≠ y) (u' : Value) : Rd (w.setCell a u') v n sz xs := by
  obtain ⟨ao, cap, e, hcp, hz, hl, hcc⟩ := h
  refine ⟨ao, cap, e, hcp, hz, hl, fun hx => ?_⟩
  obtain ⟨b, off, e2, hlt, hcc⟩ := hcc hx
  refine ⟨b, off, e2, by simpa [World.setCell] using hlt, fun i u hu => ?_⟩
  have h1 := hcc i u hu
  rw [World.cell?_setCell_other _ _ _ _ (by rintro rfl; rw [hc] at h1; exact hne u (List.mem_of_getElem? hu) (Option.some.inj h1).symm)]
  exact h1

theorem RepTab.mono {B C : Nat} {w : World} {t : Nat} (h : RepTab B w t) (hC : C ≤ B) : RepTab C w t := by
  obtain ⟨h0, A, D, v, h1, ⟨b2, c2, rfl, z2, h2⟩, ⟨b3, c3, rfl, z3, h3⟩, h4⟩ := h
  exact ⟨by omega, _, _, v, h1, ⟨b2, c2, rfl, by omega, h2⟩, ⟨b3, c3, rfl, by omega, h3⟩, World.ownsRow.mono h4 hC⟩

theorem buildOnce_any (b : Nat) (v x3 : Value) (w : World) (h4 : w.cell? ⟨b, 4, none⟩ = some v) (hv : Rd w v 4 1 (strV repA)) (h3 : w.cell? ⟨b, 3, none⟩ = some x3) (f3 : w.frozen? ⟨b, 3, none⟩ = false) (f4 : w.frozen? ⟨b, 4, none⟩ = false) :
    Calls Tryz.prog 149 #[.pointer (some ⟨b, 0, none⟩)] w fun e w' => e = .returned (.tuple #[]) ∧ ∃ t w1, RepTab w.heap.size w1 t ∧ Below w.heap.size w w1 ∧
      w' = (w1.setCell ⟨b, 3, none⟩ (.iface 207 (.pointer (some ⟨t, 0, none⟩)))).setCell ⟨b, 4, none⟩ (.slice none 0 0) := by
  have hbw := World.block_lt_of_cell? w _ h4
  have HBD := hide (build_any b v w h4 hv)
  have H3 := hide h3
  have H4 := hide h4
  have F3 := hide f3
  have F4 := hide f4
  clear hv h3 h4 f3 f4
  go_enter Tryz.func149, Tryz.ntmps149
  go_wp2_with (go_at_call 158; refine (unhide HBD).mono ?_; rintro e w1 ⟨t, rfl, hrt, hb⟩; have c3 := (hb.cell (p := ⟨b, 3, none⟩) hbw).trans (unhide H3); have c4 := (hb.cell (p := ⟨b, 4, none⟩) hbw).trans (unhide H4); have g3 := (hb.frozen (p := ⟨b, 3, none⟩) hbw).trans (unhide F3); have g4 := (hb.frozen (p := ⟨b, 4, none⟩) hbw).trans (unhide F4); have hbw1 := Nat.lt_of_lt_of_le hbw hb.size; have HR := hide hrt; have HB := hide hb; clear hrt hb)
  go_end0
  exact ⟨rfl, t, w1, unhide HR, unhide HB, rfl⟩

theorem esc_size (s : ByteArray) : (esc s.data.toList).length ≤ 2 * s.size := by
  have h1 := esc_len s.data.toList
  have h2 := extra_le s.data.toList
  have h3 : s.data.toList.length = s.size := by simp
  omega

set_option maxRecDepth 100000 in
theorem replace_any (B b : Nat) (v : Value) (hB : B ≤ b) (s : ByteArray) (hs : s.size ≤ 1000000) (w : World) (hn : RepNew w b v) (hBw : B ≤ w.heap.size) :
    Calls Tryz.prog 134 #[.pointer (some ⟨b, 0, none⟩), .string s] w fun e w' => e = .returned (.string ⟨(esc s.data.toList).toArray⟩) ∧ Below B w w' := by
  have hbw := hn.H.lt
  obtain ⟨hH, hR⟩ := hn
  have H1 := hH.put 1 (.int .i32 1)
  simp only [List.set_cons_succ, List.set_cons_zero] at H1
  have R1 : Rd (w.setCell ⟨b, 1, none⟩ (.int .i32 1)) v 4 1 (strV repA) := rdSet hR (hH.cell 1 _ rfl) (by intro u hu; simp [repA, strV] at hu; rcases hu with rfl | rfl | rfl | rfl <;> (intro e; cases e)) _
  have hdo := do_first b 0 149 #[.pointer (some ⟨b, 0, none⟩)] (fun _ _ => by rfl) w
    (fun w2 => ∃ t, RepTab (b + 1) w2 t ∧ Reg.Has w2 b [.int .u32 0, .int .i32 1, .int .u32 0, .iface 207 (.pointer (some ⟨t, 0, none⟩)), .slice none 0 0] ∧ Below B w w2)
    (hH.cell 0 _ rfl) (hH.cell 1 _ rfl) (hH.free 0 (by simp)) (hH.free 1 (by simp)) (by
      refine (buildOnce_any b v .nilIface _ (H1.cell 4 _ rfl) R1 (H1.cell 3 _ rfl) (H1.free 3 (by simp)) (H1.free 4 (by simp))).mono ?_
      rintro e w' ⟨rfl, t, w1, hrt, hb, rfl⟩
      have hbW : b < (w.setCell ⟨b, 1, none⟩ (.int .i32 1)).heap.size := H1.lt
      have h2 := ((H1.call hb).put 3 (.iface 207 (.pointer (some ⟨t, 0, none⟩)))).put 4 (.slice none 0 0)
      simp only [List.set_cons_succ, List.set_cons_zero] at h2
      refine ⟨rfl, h2.cell 0 _ rfl, h2.cell 1 _ rfl, h2.free 0 (by simp), h2.free 1 (by simp), t, ?_, h2, ?_⟩
      · exact ((hrt.mono (by omega)).set b 3 (Nat.lt_succ_self b) _).set b 4 (Nat.lt_succ_self b) _
      · exact ((((Below.refl B w).setCell (p := ⟨b, 1, none⟩) hB _).trans (hb.mono (by simpa [World.setCell] using hBw))).setCell (p := ⟨b, 3, none⟩) hB _).setCell (p := ⟨b, 4, none⟩) hB _)
  have HDO := hide hdo
  have hmf : ∀ (fn : Fn) (first cap : Array Value) (w : World), (Instr.makeFunc fn first cap).run Tryz.prog w = .ok (.func fn first cap) w := fun _ _ _ _ => rfl
  clear hdo H1 R1 hR
  go_enter Tryz.func134, Tryz.ntmps134
  go_wp2_with (first
    | (go_at_call 148; refine (unhide HDO).mono ?_; rintro e w1 ⟨rfl, w2, ⟨t, hrt, h2, hb2⟩, rfl⟩; have R3 := hide (((hrt.drew).set b 0 (Nat.lt_succ_self b) (.int .u32 1)).set b 1 (Nat.lt_succ_self b) (.int .i32 0)); have H3 := ((h2.drew).put 0 (.int .u32 1)).put 1 (.int .i32 0); have B3 := hide ((hb2.drew.setCell (p := ⟨b, 0, none⟩) hB (.int .u32 1)).setCell (p := ⟨b, 1, none⟩) hB (.int .i32 0)); clear hrt h2 hb2; generalize (w2.drew.setCell ⟨b, 0, none⟩ (.int .u32 1)).setCell ⟨b, 1, none⟩ (.int .i32 0) = w3 at R3 H3 B3 ⊢; have c3 := H3.cell 3 _ rfl; have z3 := H3.lt; clear H3)
    | (go_at_call 221; refine (bsr_any (b + 1) t s hs _ (unhide R3)).mono ?_; rintro e w4 ⟨rfl, hb4⟩; have B4 := hide hb4; clear hb4))
  go_ret
  exact ⟨rfl, (unhide B3).trans ((unhide B4).mono (Nat.le_trans hBw (unhide B3).size))⟩

/-- what Quote makes of a text -/
def quoS (s : ByteArray) : ByteArray := (⟨#[34]⟩ ++ ⟨(esc s.data.toList).toArray⟩) ++ ⟨#[34]⟩

set_option maxRecDepth 100000 in
theorem quote_ok (s : ByteArray) (hs : s.size ≤ 1000000) (hok : allS chr s.data.toList = true) (w : World) :
    Calls Tryz.prog 113 #[.string s] w fun e w' => e = .returned (.tuple #[.string (quoS s), .int .i64 0]) ∧ Below w.heap.size w w' := by
  have hall := fun w => all_any s (by omega) 2 chr kind_and2 rfl w
  rw [hok] at hall
  have HALL := hide hall
  have hq : quoS s = (⟨#[34]⟩ ++ ⟨(esc s.data.toList).toArray⟩) ++ ⟨#[34]⟩ := rfl
  have hez := esc_size s
  obtain ⟨r, hr⟩ : ∃ r : ByteArray, (⟨(esc s.data.toList).toArray⟩ : ByteArray) = r := ⟨_, rfl⟩
  have hrz : r.size ≤ 2 * s.size := by rw [← hr, size_list (l := esc s.data.toList) rfl]; exact hez
  have hrep := fun B b v hB w hn hBw => replace_any B b v hB s hs w hn hBw
  rw [hr] at hrep hq
  rw [hq]
  have HREP := hide hrep
  clear hall hok hrep hr hq hez
  go_enter Tryz.func113, Tryz.ntmps113
  go_wp2_with (first
    | (go_at_call 110; refine (unhide HALL _).mono ?_; rintro e w1 ⟨rfl, hb1⟩; have HB := hide hb1; clear hb1)
    | (go_at_call 133; refine (newRep_any _ _ (rd_litS w1 repA 4 rfl)).mono ?_; rintro e w2 ⟨b, v, rfl, hbz, hnew, hb2⟩; have HN := hide hnew; have hb0 : w.heap.size ≤ b := (by have h9 := (unhide HB).size; rw [World.size_alloc] at hbz; omega); have HB := hide (((unhide HB).alloc (unhide HB).size _).trans (hb2.mono (by have h9 := (unhide HB).size; rw [World.size_alloc]; omega))); clear hb2 hbz hnew)
    | (go_at_call 134; refine (unhide HREP w.heap.size b v hb0 _ (unhide HN) (unhide HB).size).mono ?_; rintro e w3 ⟨rfl, hb3⟩; have HB := hide ((unhide HB).trans hb3); clear hb3))
  go_ret2
  exact ⟨rfl, unhide HB⟩

theorem quote_no (s : ByteArray) (hs : s.size ≤ 1000000) (hok : allS chr s.data.toList = false) (w : World) :
    Calls Tryz.prog 113 #[.string s] w fun e w' => e = .returned (.tuple #[.string ⟨#[]⟩, .int .i64 4]) ∧ Below w.heap.size w w' := by
  have hall := fun w => all_any s (by omega) 2 chr kind_and2 rfl w
  rw [hok] at hall
  have HALL := hide hall
  clear hall hok
  go_enter Tryz.func113, Tryz.ntmps113
  go_wp2_with (go_at_call 110; refine (unhide HALL _).mono ?_; rintro e w1 ⟨rfl, hb1⟩; have HB := hide hb1; clear hb1)
  go_ret2
  exact ⟨rfl, unhide HB⟩
theorem quote_any (s : ByteArray) (hs : s.size ≤ 1000000) (w : World) :
    Calls Tryz.prog 113 #[.string s] w fun e w' => ∃ q, e = .returned (.tuple #[.string q, .int .i64 (if allS chr s.data.toList = true then 0 else 4)]) ∧ Below w.heap.size w w' := by
  cases h : allS chr s.data.toList
  · exact (quote_no s hs h w).mono fun e w' ⟨he, hb⟩ => ⟨_, he, hb⟩
  · exact (quote_ok s hs h w).mono fun e w' ⟨he, hb⟩ => ⟨_, he, hb⟩
end Go.Proofs.YtbpopmbabckojaaGreatDoor.Sp

/- Plain: the number of digits; what Trim and ParseInt make of digits. -/
namespace Go.Proofs.YtbpopmbabckojaaGreatDoor.Sp
open Go.RowKit

def digB (c : UInt8) : Bool := decide (48 ≤ c.toNat) && decide (c.toNat ≤ 57)
theorem digB_t {c : UInt8} (h : digB c = true) : 48 ≤ c.toNat ∧ c.toNat ≤ 57 := by unfold digB at h; simpa using h
theorem digB_f {c : UInt8} (h : digB c = false) : ¬ (48 ≤ c.toNat ∧ c.toNat ≤ 57) := by unfold digB at h; simp at h; omega
theorem digB_of {c : UInt8} (h : 48 ≤ c.toNat ∧ c.toNat ≤ 57) : digB c = true := by unfold digB; simpa using h
theorem digB_no {c : UInt8} (h : ¬ (48 ≤ c.toNat ∧ c.toNat ≤ 57)) : digB c = false := by unfold digB; simp; omega
/-- digits alone, one at least -/
def digsS (l : List UInt8) : Bool := !l.isEmpty && l.all digB
def valF (a : Nat) (l : List UInt8) : Nat := l.foldl (fun a c => a * 10 + (c.toNat - 48)) a
def valN (l : List UInt8) : Nat := valF 0 l
theorem valF_cons (a : Nat) (c : UInt8) (r : List UInt8) : valF a (c :: r) = valF (a * 10 + (c.toNat - 48)) r := by unfold valF; rw [List.foldl_cons]
theorem valF_nil (a : Nat) : valF a [] = a := by unfold valF; rfl
theorem valF_app (a : Nat) (x y : List UInt8) : valF a (x ++ y) = valF (valF a x) y := by unfold valF; rw [List.foldl_append]
theorem valF_ge : ∀ (l : List UInt8) (a : Nat), a ≤ valF a l
  | [], a => Nat.le_refl _
  | c :: r, a => by
    rw [valF_cons]
    have := valF_ge r (a * 10 + (c.toNat - 48))
    omega
theorem parseM_digs : ∀ (l : List UInt8) (a : Nat), l.all digB = true → a ≤ 18446744073709551615 → Lib.parseUintM 18446744073709551615 a l = if valF a l ≤ 18446744073709551615 then .ok (valF a l) else .range
  | [], a, _, h => by unfold Lib.parseUintM; rw [show valF a [] = a by unfold valF; rfl, if_pos h]
  | c :: r, a, hd, ha => by
    rw [List.all_cons, Bool.and_eq_true] at hd
    have hc := digB_t hd.1
    have hge := valF_ge r (a * 10 + (c.toNat - 48))
    unfold Lib.parseUintM
    rw [if_pos hc, valF_cons]
    by_cases h1 : 1844674407370955162 ≤ a
    · rw [if_pos h1, if_neg (by omega)]
    · rw [if_neg h1]
      by_cases h2 : 18446744073709551615 < a * 10 + (c.toNat - 48)
      · rw [if_pos h2, if_neg (by omega)]
      · rw [if_neg h2]
        exact parseM_digs r _ hd.2 (by omega)
theorem digsS_cons {l : List UInt8} (h : digsS l = true) : ∃ c r, l = c :: r ∧ digB c = true ∧ l.all digB = true := by
  unfold digsS at h
  cases l with
  | nil => simp at h
  | cons c r =>
    rw [Bool.and_eq_true] at h
    refine ⟨c, r, rfl, ?_, h.2⟩
    have := h.2
    rw [List.all_cons, Bool.and_eq_true] at this
    exact this.1
theorem parse_digs {l : List UInt8} (h : digsS l = true) : Lib.parseIntB 64 l = if valN l ≤ 9223372036854775807 then .ok (valN l) else .range := by
  obtain ⟨c, r, rfl, hc, ha⟩ := digsS_cons h
  have hc := digB_t hc
  rw [Lib.parseIntB_plain 64 c r (by omega) (by omega)]
  unfold Lib.parseUintB
  rw [if_neg (by simp), show (2 ^ 64 - 1 : Nat) = 18446744073709551615 from rfl, parseM_digs _ 0 ha (by decide)]
  show Lib.signlessC 9223372036854775808 _ = _
  unfold valN
  by_cases h1 : valF 0 (c :: r) ≤ 18446744073709551615
  · rw [if_pos h1]
    unfold Lib.signlessC
    by_cases h2 : valF 0 (c :: r) ≤ 9223372036854775807
    · rw [if_pos h2]; simp only; rw [if_neg (by omega)]
    · rw [if_neg h2]; simp only; rw [if_pos (by omega)]
  · rw [if_neg h1, if_neg (by omega)]
    rfl
attribute [irreducible] valF
/-- what token.Number gives -/
def numS (l : List UInt8) : Int × Int := if digsS l = true then (if valN l ≤ 9007199254740991 then ((valN l : Int), 0) else (0, 3)) else (0, 4)
theorem numS_bad {l : List UInt8} (h : digsS l = false) : numS l = (0, 4) := by unfold numS; rw [if_neg (by rw [h]; decide)]
theorem numS_ok {l : List UInt8} (h : digsS l = true) (hv : valN l ≤ 9007199254740991) : numS l = ((valN l : Int), 0) := by unfold numS; rw [if_pos h, if_pos hv]
theorem numS_long {l : List UInt8} (h : digsS l = true) (hv : ¬ valN l ≤ 9007199254740991) : numS l = (0, 3) := by unfold numS; rw [if_pos h, if_neg hv]

def tenD : List UInt8 := [48, 49, 50, 51, 52, 53, 54, 55, 56, 57]
theorem tenD_eq (c : UInt8) : tenD.contains c = digB c := by
  have := byte_all (fun c => tenD.contains c == digB c) (by decide +kernel) c
  simpa using this
theorem dropW_nil (p : UInt8 → Bool) : ∀ l : List UInt8, l.all p = true → l.dropWhile p = []
  | [], _ => rfl
  | c :: r, h => by
    rw [List.all_cons, Bool.and_eq_true] at h
    rw [List.dropWhile_cons_of_pos h.1]
    exact dropW_nil p r h.2
theorem dropW_ne (p : UInt8 → Bool) : ∀ l : List UInt8, l.all p = false → ∃ c r, l.dropWhile p = c :: r ∧ p c = false
  | [], h => by simp at h
  | c :: r, h => by
    cases hc : p c
    · exact ⟨c, r, by rw [List.dropWhile_cons_of_neg (by rw [hc]; decide)], hc⟩
    · rw [List.all_cons, hc, Bool.true_and] at h
      rw [List.dropWhile_cons_of_pos hc]
      exact dropW_ne p r h
theorem trim_digs {l : List UInt8} (h : l.all digB = true) : Lib.trimS l tenD = [] := by
  have hp : (fun x => tenD.contains x) = digB := funext tenD_eq
  unfold Lib.trimS Lib.trimRightS Lib.trimLeftS
  rw [hp, dropW_nil digB l.reverse (by rw [List.all_reverse]; exact h)]
  rfl
theorem trim_nodigs {l : List UInt8} (h : l.all digB = false) : Lib.trimS l tenD ≠ [] := by
  have hp : (fun x => tenD.contains x) = digB := funext tenD_eq
  unfold Lib.trimS Lib.trimRightS Lib.trimLeftS
  rw [hp]
  obtain ⟨c, r, hd, hc⟩ := dropW_ne digB l.reverse (by rw [List.all_reverse]; exact h)
  rw [hd]
  have hall : (c :: r).reverse.all digB = false := by rw [List.all_reverse, List.all_cons, hc]; rfl
  obtain ⟨c2, r2, hd2, _⟩ := dropW_ne digB _ hall
  rw [hd2]
  simp
end Go.Proofs.YtbpopmbabckojaaGreatDoor.Sp

/- token.Number. -/
namespace Go.Proofs.YtbpopmbabckojaaGreatDoor.Sp
open Go.RowKit

/-! ### plain -/
def outD (r : Nat) : Bool := decide (r < 48) || decide (57 < r)
theorem idx_digs (s : ByteArray) : ∀ (f pos : Nat), (s.data.toList.drop pos).all digB = true → Lib.idxFuncFrom outD true s f pos = -1
  | 0, _, _ => rfl
  | f + 1, pos, h => by
    unfold Lib.idxFuncFrom
    by_cases hp : pos < s.size
    · rw [if_pos hp]
      rw [drop_cons s pos hp, List.all_cons, Bool.and_eq_true] at h
      have hc := digB_t h.1
      rw [decode_ascii s pos hp (by omega)]
      have ho : outD s[pos].toNat = false := by unfold outD; simp; omega
      rw [if_neg (by rw [ho]; decide)]
      exact idx_digs s f (pos + 1) h.2
    · rw [if_neg hp]
theorem idx_digits (s : ByteArray) (h : s.data.toList.all digB = true) : Lib.idxFunc outD true s = -1 := by
  unfold Lib.idxFunc
  exact idx_digs s s.size 0 (by rw [List.drop_zero]; exact h)




end Go.Proofs.YtbpopmbabckojaaGreatDoor.Sp

/- start.value, Status. -/
namespace Go.Proofs.YtbpopmbabckojaaGreatDoor.Sp
open Go.RowKit Sl

theorem svalue_any (s : ByteArray) (hs : s.size ≤ 1000000) (w : World) :
    Calls Tryz.prog 91 #[.string s] w fun e w' => e = .returned (.bool (allS chr s.data.toList)) ∧ Below w.heap.size w w' := by
  cases h : allS chr s.data.toList
  · have hc := hide (fun w => quote_no s hs h w)
    clear h
    go_enter Tryz.func91, Tryz.ntmps91
    go_wp2_with (go_at_call 113; refine (unhide hc _).mono ?_; rintro e w1 ⟨rfl, hb1⟩; have HB := hide hb1; clear hb1)
    go_ret
    exact ⟨rfl, unhide HB⟩
  · have hc := hide (fun w => quote_ok s hs h w)
    clear h
    go_enter Tryz.func91, Tryz.ntmps91
    go_wp2_with (go_at_call 113; refine (unhide hc _).mono ?_; rintro e w1 ⟨rfl, hb1⟩; have HB := hide hb1; clear hb1)
    go_ret
    exact ⟨rfl, unhide HB⟩

/-! ### plain -/
def stV (l : List UInt8) : List UInt8 := (cutS 32 l).1
def stRest (l : List UInt8) : List UInt8 := (cutS 32 l).2.1
def stDig (l : List UInt8) : List UInt8 := (cutS 32 (stRest l)).1
def stWhy (l : List UInt8) : List UInt8 := (cutS 32 (stRest l)).2.1
def stOK (l : List UInt8) : Prop := (cutS 32 l).2.2 = true ∧ (cutS 32 (stRest l)).2.2 = true ∧ (ver (stV l)).2 = 0 ∧ (numS (stDig l)).2 = 0 ∧ (stDig l).length = 3 ∧ 100 ≤ (numS (stDig l)).1 ∧ (numS (stDig l)).1 ≤ 599 ∧ allS chr (stWhy l) = true
instance (l : List UInt8) : Decidable (stOK l) := by unfold stOK; infer_instance
/-- what Status gives: minor, status, reason, error -/
def stS (l : List UInt8) : Int × Int × List UInt8 × Int := if stOK l then ((ver (stV l)).1, (numS (stDig l)).1, stWhy l, 0) else (0, 0, [], 4)
theorem stS_ok {l : List UInt8} (h : stOK l) : stS l = ((ver (stV l)).1, (numS (stDig l)).1, stWhy l, 0) := by unfold stS; rw [if_pos h]
theorem stS_no {l : List UInt8} (h : ¬ stOK l) : stS l = (0, 0, [], 4) := by unfold stS; rw [if_neg h]
def StPost (s : ByteArray) (w : World) (e : Ending) (w' : World) : Prop :=
  e = .returned (.tuple #[.int .i64 (stS s.data.toList).1, .int .i64 (stS s.data.toList).2.1, .string (ofL (stS s.data.toList).2.2.1), .int .i64 (stS s.data.toList).2.2.2]) ∧ Below w.heap.size w w'
theorem stp_no (s : ByteArray) (w w' : World) (h : ¬ stOK s.data.toList) (hb : Below w.heap.size w w') : StPost s w (.returned (.tuple #[.int .i64 0, .int .i64 0, .string ⟨#[]⟩, .int .i64 4])) w' := by
  unfold StPost
  rw [stS_no h]
  exact ⟨rfl, hb⟩
theorem stp_ok (s y : ByteArray) (a n : Int) (w w' : World) (h : stOK s.data.toList) (ha : a = (ver (stV s.data.toList)).1) (hn : n = (numS (stDig s.data.toList)).1) (hy : y.data.toList = stWhy s.data.toList) (hb : Below w.heap.size w w') :
    StPost s w (.returned (.tuple #[.int .i64 a, .int .i64 n, .string y, .int .i64 0])) w' := by
  unfold StPost
  rw [stS_ok h, ← ha, ← hn, ← hy]
  exact ⟨rfl, hb⟩

end Go.Proofs.YtbpopmbabckojaaGreatDoor.Sp

/- Plain: the digits of a number; strconv.Itoa of any number. -/
namespace Go.Proofs.YtbpopmbabckojaaGreatDoor.Sp
open Go.RowKit

def decB (u : Nat) : ByteArray := ⟨(Lib.decDigits u).toArray⟩
def itoaB (n : Int) : ByteArray := ⟨(Lib.itoa n).toArray⟩
def tenB : ByteArray := ⟨#[48, 49, 50, 51, 52, 53, 54, 55, 56, 57]⟩
theorem dec_small (u : Nat) (h : u < 10) : tenB.extract u (u + 1) = decB u := by
  have h1 : ∀ i, i < 10 → (tenB.extract i (i + 1)).data.toList = Lib.decDigits i := by decide +kernel
  exact ba_eq (h1 u h)
theorem dec_more (u : Nat) (h : 10 ≤ u) : decB u = decB (u / 10) ++ decB (u % 10) := by
  have e : Lib.decDigits u = Lib.decDigits (u / 10) ++ Lib.decDigits (u % 10) := by
    conv => lhs; rw [Lib.decDigits, dif_neg (by omega)]
    have e2 : Lib.decDigits (u % 10) = [UInt8.ofNat (48 + u % 10)] := by rw [Lib.decDigits, dif_pos (by omega)]
    rw [e2]
  have h2 : (decB (u / 10) ++ decB (u % 10)).data.toList = Lib.decDigits u := by rw [app_data, e]; rfl
  exact (ba_eq h2).symm
theorem decB_size (u : Nat) : (decB u).size ≤ u + 1 := by
  have h : ∀ n u, u ≤ n → (Lib.decDigits u).length ≤ u + 1 := by
    intro n
    induction n with
    | zero => intro u hu; obtain rfl : u = 0 := by omega
              decide +kernel
    | succ n ih =>
      intro u hu
      rw [Lib.decDigits]
      split
      · simp
      · have := ih (u / 10) (by omega)
        rw [List.length_append]; simp; omega
  have := h u u (Nat.le_refl _)
  rw [show (decB u).size = (Lib.decDigits u).length from size_list rfl]
  exact this
theorem decB_20 (u : Nat) (h : u < 10000000000000000000) : (decB u).size ≤ 19 := by
  have step : ∀ (k u : Nat), u < 10 ^ k → 0 < k → (Lib.decDigits u).length ≤ k := by
    intro k
    induction k with
    | zero => intro u h h0; omega
    | succ k ih =>
      intro u h _
      rw [Lib.decDigits]
      split
      · simp
      · rcases Nat.eq_zero_or_pos k with h0 | h0
        · subst h0; simp at h; omega
        · have := ih (u / 10) (by rw [Nat.pow_succ] at h; omega) h0
          rw [List.length_append]; simp; omega
  rw [show (decB u).size = (Lib.decDigits u).length from size_list rfl]
  exact step 19 u h (by omega)

theorem itoa_size (n : Int) (h0 : -9223372036854775808 ≤ n) (h1 : n ≤ 9223372036854775807) : (itoaB n).size ≤ 20 := by
  rw [show (itoaB n).size = (Lib.itoa n).length from size_list rfl]
  unfold Lib.itoa
  split
  · have := decB_20 n.natAbs (by omega)
    rw [show (decB n.natAbs).size = (Lib.decDigits n.natAbs).length from size_list rfl] at this
    simp; omega
  · have := decB_20 n.toNat (by omega)
    rw [show (decB n.toNat).size = (Lib.decDigits n.toNat).length from size_list rfl] at this
    omega
theorem itoa_neg (n : Int) (h : n < 0) : (⟨#[45]⟩ : ByteArray) ++ decB n.natAbs = itoaB n := by
  unfold itoaB Lib.itoa
  rw [if_pos h]
  have : ((⟨#[45]⟩ : ByteArray) ++ decB n.natAbs).data.toList = 45 :: Lib.decDigits n.natAbs := by rw [app_data]; rfl
  exact ba_eq this
theorem itoa_pos (n : Int) (h : 0 ≤ n) : decB n.toNat = itoaB n := by
  unfold itoaB Lib.itoa
  rw [if_neg (by omega)]; rfl

/-! ### the table of powers of ten -/
abbrev Pow10 (w : World) : Prop := Lib.TabIs Tryz.prog w "internal/strconv.uint64pow10" .u64 Lib.pow10Tab
theorem Pow10.below {w w' : World} (h : Pow10 w) (hb : Below w.heap.size w w') : Pow10 w' := by
  have hgn : Tryz.prog.globalNamed "internal/strconv.uint64pow10" = some 0 := by kernel_rfl
  unfold Pow10 Lib.TabIs World.var? at h ⊢
  rw [hgn] at h ⊢
  simp only [Option.bind_some] at h ⊢
  have hlt : 0 < w.heap.size := by
    rcases Nat.lt_or_ge 0 w.heap.size with h' | h'
    · exact h'
    · rw [Array.getElem?_eq_none h'] at h; cases h
  rw [hb.block 0 hlt]
  exact h
theorem itoa_any (n : Int) (h0 : -9223372036854775808 ≤ n) (h1 : n ≤ 9223372036854775807) (w : World) (ht : Pow10 w) : Calls Tryz.prog 40 #[.int .i64 n] w fun e w' => e = .returned (.string (itoaB n)) ∧ Below w.heap.size w w' := by
  refine (Tryz.strconv_Itoa n h0 h1 w ht).mono ?_
  rintro e w' ⟨rfl, k, os, rfl⟩
  exact ⟨rfl, Lib.below_grow _ w (Nat.le_refl _) k os⟩
end Go.Proofs.YtbpopmbabckojaaGreatDoor.Sp

/- start.RequestLine, StatusLine. -/
namespace Go.Proofs.YtbpopmbabckojaaGreatDoor.Sp
open Go.RowKit Sl

def httpV : List UInt8 := [72, 84, 84, 80, 47]
def rlOK (m t : List UInt8) (n : Int) : Prop := tokenS m = true ∧ seenS t = true ∧ 0 ≤ n ∧ n ≤ 1
instance (m t : List UInt8) (n : Int) : Decidable (rlOK m t n) := by unfold rlOK; infer_instance
def rlT (m t : List UInt8) (n : Int) : List UInt8 := m ++ [32] ++ t ++ [32] ++ httpV ++ [49, 46] ++ Lib.itoa n
def rlS (m t : List UInt8) (n : Int) : List UInt8 × Int := if rlOK m t n then (rlT m t n, 0) else ([], 4)
def slOK (n st : Int) (r : List UInt8) : Prop := 0 ≤ n ∧ n ≤ 1 ∧ 100 ≤ st ∧ st ≤ 599 ∧ allS chr r = true
instance (n st : Int) (r : List UInt8) : Decidable (slOK n st r) := by unfold slOK; infer_instance
def slT (n st : Int) (r : List UInt8) : List UInt8 := httpV ++ [49, 46] ++ Lib.itoa n ++ [32] ++ Lib.itoa st ++ [32] ++ r
def slS (n st : Int) (r : List UInt8) : List UInt8 × Int := if slOK n st r then (slT n st r, 0) else ([], 4)

set_option maxRecDepth 100000 in
set_option maxHeartbeats 2000000 in
theorem reqLine_any (m t : ByteArray) (n : Int) (hm : m.size ≤ 1000000) (ht : t.size ≤ 1000000) (w : World) (hT : Pow10 w) :
    Calls Tryz.prog 68 #[.string m, .string t, .int .i64 n] w fun e w' => e = .returned (.tuple #[.string (ofL (rlS m.data.toList t.data.toList n).1), .int .i64 (rlS m.data.toList t.data.toList n).2]) ∧ Below w.heap.size w w' := by
  have c1 := hide (fun w => token_any m (by omega) w)
  have c2 := hide (fun w => seen_any t w)
  have HT := hide hT
  clear hT
  by_cases h1 : tokenS m.data.toList = true
  rotate_left
  · have hr := hide (show rlS m.data.toList t.data.toList n = ([], 4) by unfold rlS; rw [if_neg]; exact fun h => h1 h.1)
    rw [Bool.not_eq_true] at h1
    rw [h1] at c1
    clear h1 c2
    go_enter Tryz.func68, Tryz.ntmps68
    go_wp2_with fail
    refine (unhide c1 _).mono ?_; rintro e w1 ⟨rfl, hb1⟩
    go_wp2_with fail
    go_ret2
    exact ⟨by rw [unhide hr] <;> rfl, hb1⟩
  rw [h1] at c1
  by_cases h2 : seenS t.data.toList = true
  rotate_left
  · have hr := hide (show rlS m.data.toList t.data.toList n = ([], 4) by unfold rlS; rw [if_neg]; exact fun h => h2 h.2.1)
    rw [Bool.not_eq_true] at h2
    rw [h2] at c2
    clear h1 h2
    go_enter Tryz.func68, Tryz.ntmps68
    go_wp2_with fail
    refine (unhide c1 _).mono ?_; rintro e w1 ⟨rfl, hb1⟩
    go_wp2_with fail
    refine (unhide c2 _).mono ?_; rintro e w2 ⟨rfl, hb2⟩
    replace hb2 := hb1.trans (hb2.mono hb1.size)
    clear hb1
    go_wp2_with fail
    go_ret2
    exact ⟨by rw [unhide hr] <;> rfl, hb2⟩
  rw [h2] at c2
  by_cases h3 : 0 ≤ n ∧ n ≤ 1
  rotate_left
  · have hr := hide (show rlS m.data.toList t.data.toList n = ([], 4) by unfold rlS; rw [if_neg]; exact fun h => h3 h.2.2)
    have hb : decide (n < 0) = true ∨ (decide (n < 0) = false ∧ decide (1 < n) = true) := by
      by_cases h : n < 0
      · exact .inl (decide_eq_true h)
      · exact .inr ⟨decide_eq_false h, decide_eq_true (by omega)⟩
    clear h1 h2 h3
    rcases hb with h | ⟨h, h'⟩
    all_goals
      go_enter Tryz.func68, Tryz.ntmps68
      go_wp2_with fail
      refine (unhide c1 _).mono ?_; rintro e w1 ⟨rfl, hb1⟩
      go_wp2_with fail
      refine (unhide c2 _).mono ?_; rintro e w2 ⟨rfl, hb2⟩
      replace hb2 := hb1.trans (hb2.mono hb1.size)
      clear hb1
      go_wp2_with fail
      go_ret2
      exact ⟨by rw [unhide hr] <;> rfl, hb2⟩
  obtain ⟨h3, h4⟩ := h3
  have ci := hide (fun w ht => itoa_any n (by omega) (by omega) w ht)
  have zi := itoa_size n (by omega) (by omega)
  have hid : (itoaB n).data.toList = Lib.itoa n := rfl
  obtain ⟨I, hI⟩ : ∃ I, itoaB n = I := ⟨_, rfl⟩
  rw [hI] at ci zi hid
  have hr := hide (show rlS m.data.toList t.data.toList n = (rlT m.data.toList t.data.toList n, 0) by unfold rlS; rw [if_pos ⟨h1, h2, h3, h4⟩])
  have k1 : decide (n < 0) = false := decide_eq_false (by omega)
  have k2 : decide (1 < n) = false := decide_eq_false (by omega)
  have hres : ((((((m ++ ⟨#[32]⟩) ++ t) ++ ⟨#[32]⟩) ++ ⟨#[72, 84, 84, 80, 47]⟩) ++ ⟨#[49, 46]⟩) ++ I : ByteArray) = ofL (rlT m.data.toList t.data.toList n) := by
    refine ba_eq ?_
    rw [app_data, app_data, app_data, app_data, app_data, app_data, hid]
    rfl
  have HRES := Lib.hid hres
  have z1 : (⟨#[32]⟩ : ByteArray).size = 1 := rfl
  have z2 : (⟨#[72, 84, 84, 80, 47]⟩ : ByteArray).size = 5 := rfl
  have z3 : (⟨#[49, 46]⟩ : ByteArray).size = 2 := rfl
  clear h1 h2 h3 h4 hI hid hres
  go_enter Tryz.func68, Tryz.ntmps68
  go_wp2_with fail
  refine (unhide c1 _).mono ?_; rintro e w1 ⟨rfl, hb1⟩
  go_wp2_with fail
  refine (unhide c2 _).mono ?_; rintro e w2 ⟨rfl, hb2⟩
  replace hb2 := hb1.trans (hb2.mono hb1.size)
  clear hb1
  go_wp2_with fail
  refine (unhide ci _ ((unhide HT).below hb2)).mono ?_; rintro e w3 ⟨rfl, hb3⟩
  replace hb3 := hb2.trans (hb3.mono hb2.size)
  clear hb2
  go_wp2_with fail
  go_ret2
  exact ⟨by rw [unhide hr, ← HRES.out] <;> rfl, hb3⟩

set_option maxRecDepth 100000 in
set_option maxHeartbeats 2000000 in
theorem statLine_any (n st : Int) (r : ByteArray) (hr0 : r.size ≤ 1000000) (w : World) (hT : Pow10 w) :
    Calls Tryz.prog 69 #[.int .i64 n, .int .i64 st, .string r] w fun e w' => e = .returned (.tuple #[.string (ofL (slS n st r.data.toList).1), .int .i64 (slS n st r.data.toList).2]) ∧ Below w.heap.size w w' := by
  have c1 := hide (fun w => svalue_any r hr0 w)
  have HT := hide hT
  clear hT
  by_cases h3 : 0 ≤ n ∧ n ≤ 1 ∧ 100 ≤ st ∧ st ≤ 599
  rotate_left
  · have hr := hide (show slS n st r.data.toList = ([], 4) by unfold slS; rw [if_neg]; exact fun h => h3 ⟨h.1, h.2.1, h.2.2.1, h.2.2.2.1⟩)
    have hb : decide (n < 0) = true ∨ (decide (n < 0) = false ∧ decide (1 < n) = true) ∨ (decide (n < 0) = false ∧ decide (1 < n) = false ∧ decide (st < 100) = true) ∨ (decide (n < 0) = false ∧ decide (1 < n) = false ∧ decide (st < 100) = false ∧ decide (599 < st) = true) := by
      by_cases k1 : n < 0
      · exact .inl (decide_eq_true k1)
      · by_cases k2 : 1 < n
        · exact .inr (.inl ⟨decide_eq_false k1, decide_eq_true k2⟩)
        · by_cases k3 : st < 100
          · exact .inr (.inr (.inl ⟨decide_eq_false k1, decide_eq_false k2, decide_eq_true k3⟩))
          · exact .inr (.inr (.inr ⟨decide_eq_false k1, decide_eq_false k2, decide_eq_false k3, decide_eq_true (by omega)⟩))
    clear h3
    rcases hb with g1 | ⟨g1, g2⟩ | ⟨g1, g2, g3⟩ | ⟨g1, g2, g3, g4⟩
    all_goals
      go_enter Tryz.func69, Tryz.ntmps69
      go_wp2_with fail
      go_ret2
      exact ⟨by rw [unhide hr] <;> rfl, Below.refl _ _⟩
  obtain ⟨h3, h4, h5, h6⟩ := h3
  have k1 : decide (n < 0) = false := decide_eq_false (by omega)
  have k2 : decide (1 < n) = false := decide_eq_false (by omega)
  have k3 : decide (st < 100) = false := decide_eq_false (by omega)
  have k4 : decide (599 < st) = false := decide_eq_false (by omega)
  by_cases h1 : allS chr r.data.toList = true
  rotate_left
  · have hr := hide (show slS n st r.data.toList = ([], 4) by unfold slS; rw [if_neg]; exact fun h => h1 h.2.2.2.2)
    rw [Bool.not_eq_true] at h1
    rw [h1] at c1
    clear h1 h3 h4 h5 h6
    go_enter Tryz.func69, Tryz.ntmps69
    go_wp2_with fail
    refine (unhide c1 _).mono ?_; rintro e w1 ⟨rfl, hb1⟩
    go_wp2_with fail
    go_ret2
    exact ⟨by rw [unhide hr] <;> rfl, hb1⟩
  rw [h1] at c1
  have ci := hide (fun w ht => itoa_any n (by omega) (by omega) w ht)
  have zi := itoa_size n (by omega) (by omega)
  have hid : (itoaB n).data.toList = Lib.itoa n := rfl
  have cj := hide (fun w ht => itoa_any st (by omega) (by omega) w ht)
  have zj := itoa_size st (by omega) (by omega)
  have hjd : (itoaB st).data.toList = Lib.itoa st := rfl
  obtain ⟨I, hI⟩ : ∃ I, itoaB n = I := ⟨_, rfl⟩
  obtain ⟨J, hJ⟩ : ∃ J, itoaB st = J := ⟨_, rfl⟩
  rw [hI] at ci zi hid
  rw [hJ] at cj zj hjd
  have hr := hide (show slS n st r.data.toList = (slT n st r.data.toList, 0) by unfold slS; rw [if_pos ⟨h3, h4, h5, h6, h1⟩])
  have hres : ((((((⟨#[72, 84, 84, 80, 47, 49, 46]⟩ : ByteArray) ++ I) ++ ⟨#[32]⟩) ++ J) ++ ⟨#[32]⟩) ++ r : ByteArray) = ofL (slT n st r.data.toList) := by
    refine ba_eq ?_
    rw [app_data, app_data, app_data, app_data, app_data, hid, hjd]
    rfl
  have HRES := Lib.hid hres
  have z1 : (⟨#[32]⟩ : ByteArray).size = 1 := rfl
  have z2 : (⟨#[72, 84, 84, 80, 47, 49, 46]⟩ : ByteArray).size = 7 := rfl
  clear h1 h3 h4 h5 h6 hI hJ hid hjd hres
  go_enter Tryz.func69, Tryz.ntmps69
  go_wp2_with fail
  refine (unhide c1 _).mono ?_; rintro e w1 ⟨rfl, hb1⟩
  go_wp2_with fail
  refine (unhide ci _ ((unhide HT).below hb1)).mono ?_; rintro e w2 ⟨rfl, hb2⟩
  replace hb2 := hb1.trans (hb2.mono hb1.size)
  clear hb1
  go_wp2_with fail
  refine (unhide cj _ ((unhide HT).below hb2)).mono ?_; rintro e w3 ⟨rfl, hb3⟩
  replace hb3 := hb2.trans (hb3.mono hb2.size)
  clear hb2
  go_wp2_with fail
  go_ret2
  exact ⟨by rw [unhide hr, ← HRES.out] <;> rfl, hb3⟩
end Go.Proofs.YtbpopmbabckojaaGreatDoor.Sp
