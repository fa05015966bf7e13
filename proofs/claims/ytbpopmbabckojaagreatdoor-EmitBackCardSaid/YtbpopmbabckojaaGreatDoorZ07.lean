/- Lemmas for the statement's proof, several texts in one: O6, O7. -/
import Derived.Test.YtbpopmbabckojaaGreatDoorZ05
import Derived.Test.YtbpopmbabckojaaGreatDoorZ06
import Derived.Deep.CutRange
import Derived.Test.YtbpopmbabckojaaGreatDoorZ03
set_option linter.unusedVariables false
set_option linter.unusedSimpArgs false
/- The library's byteStringReplacer, its table as token.Quote's: what Replace makes. -/
section
namespace Go.Proofs.YtbpopmbabckojaaGreatDoor.Sp
open Go.RowKit Sl

/-- what a reader of the table meets -/
structure TabAt (w : World) (t bA cA bC cC gv cv : Nat) : Prop where
  tab : Reg.Has w t (tabL (.slice (some ⟨bA, 0, none⟩) 2 cA) (.slice (some ⟨bC, 0, none⟩) 2 cC) (.slice (some ⟨gv, 0, none⟩) 2 cv))
  A : Reg.Has w bA (Mem.bytesV [92, 34])
  C : Reg.Has w bC (Mem.bytesV [92, 92])
  v0 : w.cell? ⟨gv, 0, none⟩ = some (.string ⟨#[92]⟩)
  v1 : w.cell? ⟨gv, 1, none⟩ = some (.string ⟨#[34]⟩)
theorem TabAt.call {w w' : World} {t bA cA bC cC gv cv : Nat} (h : TabAt w t bA cA bC cC gv cv) (hb : Below w.heap.size w w') : TabAt w' t bA cA bC cC gv cv :=
  ⟨h.tab.call hb, h.A.call hb, h.C.call hb, (hb.cell (p := ⟨gv, 0, none⟩) (World.block_lt_of_cell? w _ h.v0)).trans h.v0, (hb.cell (p := ⟨gv, 1, none⟩) (World.block_lt_of_cell? w _ h.v1)).trans h.v1⟩
theorem RepTab.at {B : Nat} {w : World} {t : Nat} (h : RepTab B w t) : ∃ bA cA bC cC gv cv, TabAt w t bA cA bC cC gv cv := by
  obtain ⟨_, A, C, v, h1, ⟨b2, c2, rfl, _, h2⟩, ⟨b3, c3, rfl, _, h3⟩, h4⟩ := h
  obtain ⟨gv, cv, rfl, _, _⟩ := World.ownsRow.form h4 (by decide)
  exact ⟨b2, c2, b3, c3, gv, cv, h1, h2, h3, h4.cellAt 0 (by decide), h4.cellAt 1 (by decide)⟩
section
variable {w : World} {t bA cA bC cC gv cv : Nat} (h : TabAt w t bA cA bC cC gv cv)
include h
theorem TabAt.list : w.cell? ⟨t, 256, none⟩ = some (.slice (some ⟨gv, 0, none⟩) 2 cv) := h.tab.cell 256 _ (tabL_S _ _ _)
theorem TabAt.q : w.cell? ⟨t, 34, none⟩ = some (.slice (some ⟨bA, 0, none⟩) 2 cA) := h.tab.cell 34 _ (tabL_A _ _ _)
theorem TabAt.b : w.cell? ⟨t, 92, none⟩ = some (.slice (some ⟨bC, 0, none⟩) 2 cC) := h.tab.cell 92 _ (tabL_B _ _ _)
theorem TabAt.no (c : UInt8) (hc : spec c = false) : w.cell? ⟨t, c.toNat, none⟩ = some (.slice none 0 0) := by
  rw [spec_nat] at hc
  simp at hc
  exact h.tab.cell c.toNat _ (tabL_no _ _ _ _ c.toNat_lt (by omega) (by omega))
end
theorem spec_cases {c : UInt8} (h : spec c = true) : c.toNat = 34 ∨ c.toNat = 92 := by
  rw [spec_nat] at h
  simp at h
  omega

set_option maxRecDepth 100000 in
set_option maxHeartbeats 4000000 in
theorem bsr_any (B t : Nat) (s : ByteArray) (hs : s.size ≤ 1000000) (w : World) (hr : RepTab B w t) :
    Calls Tryz.prog 221 #[.pointer (some ⟨t, 0, none⟩), .string s] w fun e w' => e = .returned (.string ⟨(esc s.data.toList).toArray⟩) ∧ Below w.heap.size w w' := by
  obtain ⟨bA, cA, bC, cC, gv, cv, hT⟩ := hr.at
  obtain ⟨nx, hnx⟩ : ∃ nx, extra s.data.toList = nx := ⟨_, rfl⟩
  have hxl : nx ≤ s.size := by rw [← hnx]; have := extra_le s.data.toList; simpa using this
  obtain ⟨an, han⟩ : ∃ an, decide (0 < nx) = an := ⟨_, rfl⟩
  have HT := hide hT
  have HNX := Lib.hid hnx
  have HAN := Lib.hid han
  have zt := hT.tab.lt
  have zv := World.block_lt_of_cell? w _ hT.v0
  clear hT hr hnx han
  obtain ⟨r, hr⟩ : ∃ r : ByteArray, (⟨(esc s.data.toList).toArray⟩ : ByteArray) = r := ⟨_, rfl⟩
  rw [hr]
  have hrl : r.data.toList = esc s.data.toList := by rw [← hr]
  have HRL := Lib.hid hrl
  clear hr hrl
  go_enter Tryz.func221, Tryz.ntmps221
  have tS := (unhide HT).list
  go_upto_if 26 with fail
  go_cut [5, 6] (fun n any wc => n = .int .i64 ↑(s.size + nx) ∧ any = .bool an ∧ Below w.heap.size w wc)
  case first =>
    rcases Nat.lt_or_ge s.size 16 with h16 | h16
    · go_wp2_with fail
      go_loopw [5, 6, 10] (fun n any i wr => ∃ k : Nat, k ≤ s.size ∧ i = .int .i64 k ∧ n = .int .i64 ↑(s.size + extra (s.data.toList.take k)) ∧ any = .bool (decide (0 < extra (s.data.toList.take k))) ∧ Below w.heap.size w wr) (fun _ _ i _ => s.size - (intOf i).toNat)
      case atStart => exact ⟨0, Nat.zero_le _, rfl, rfl, rfl, Below.refl _ _⟩
      case round =>
        obtain ⟨k, hk, rfl, rfl, rfl, hbel⟩ := hrel
        have HB := hide hbel
        have hT := (unhide HT).call hbel
        have hle := extra_take_le s.data.toList k
        rw [HNX.out] at hle
        rcases Nat.lt_or_ge k s.size with hlt | hge
        · have hst := extra_take s k hlt
          obtain ⟨m, hm⟩ : ∃ m, extra (s.data.toList.take k) = m := ⟨_, rfl⟩
          rw [hm] at hst hle ⊢
          obtain ⟨a0, ha0⟩ : ∃ a0, decide (0 < m) = a0 := ⟨_, rfl⟩
          rw [ha0]
          have HA0 := Lib.hid ha0
          have HST := Lib.hid hst
          have hc256 := s[k].toNat_lt
          have ztr := hT.tab.lt
          clear hm ha0 hst hbel
          cases hsp : spec s[k]
          · have eN := hT.no s[k] hsp
            have hnn := nil_neq
            have HSP := Lib.hid hsp
            have HTT := hide hT
            clear hsp hT
            go_wp2_with fail
            go_roundw
            case rel => exact ⟨k + 1, by omega, by go_num, by rw [HST.out, HSP.out]; rfl, by rw [HST.out, HSP.out, ← HA0.out]; rfl, unhide HB⟩
            case measure => simp [intOf]; omega
          · have hsp2 := spec_cases hsp
            have HSP := Lib.hid hsp
            clear hsp
            rcases hsp2 with h34 | h34
            · have eN := hT.q
              have hnn := nil_neq_no
              clear hT
              go_wp2_with fail
              go_roundw
              case rel => exact ⟨k + 1, by omega, by go_num, by rw [HST.out, HSP.out]; go_num, by rw [HST.out, HSP.out]; simp, unhide HB⟩
              case measure => simp [intOf]; omega
            · have eN := hT.b
              have hnn := nil_neq_no
              clear hT
              go_wp2_with fail
              go_roundw
              case rel => exact ⟨k + 1, by omega, by go_num, by rw [HST.out, HSP.out]; go_num, by rw [HST.out, HSP.out]; simp, unhide HB⟩
              case measure => simp [intOf]; omega
        · have hT2 : s.data.toList.take k = s.data.toList := List.take_of_length_le (by simpa using hge)
          rw [hT2, HNX.out, HAN.out]
          clear hT hbel hT2 hle
          go_wp2_with fail
          go_meet
          exact ⟨rfl, rfl, unhide HB⟩
    · have hx := extra_count s.data.toList
      rw [HNX.out] at hx
      obtain ⟨a, ha⟩ : ∃ a, s.data.toList.count 92 = a := ⟨_, rfl⟩
      obtain ⟨b, hb⟩ : ∃ b, s.data.toList.count 34 = b := ⟨_, rfl⟩
      have hcA := fun w => Tryz.strings_Count_one s 92 w
      have hcB := fun w => Tryz.strings_Count_one s 34 w
      unfold Lib.countByte at hcA hcB
      rw [ha] at hx hcA
      rw [hb] at hx hcB
      have HX := Lib.hid hx
      have HCA := hide hcA
      have HCB := hide hcB
      have hal : a + b ≤ s.size := by omega
      clear ha hb hx hcA hcB
      go_wp2_with fail
      go_loopw [5, 6, 32] (fun n any i wr => ((i = .int .i64 0 ∧ n = .int .i64 ↑s.size ∧ any = .bool false) ∨ (i = .int .i64 1 ∧ n = .int .i64 (↑s.size + ↑a) ∧ any = .bool (decide (0 < a))) ∨ (i = .int .i64 2 ∧ n = .int .i64 (↑s.size + ↑a + ↑b) ∧ any = .bool an)) ∧ Below w.heap.size w wr) (fun _ _ i _ => 2 - (intOf i).toNat)
      case atStart => exact ⟨.inl ⟨rfl, rfl, rfl⟩, Below.refl _ _⟩
      case round =>
        obtain ⟨hrel, hbel⟩ := hrel
        have HB := hide hbel
        have hT := (unhide HT).call hbel
        have tS := hT.list
        have ztr := hT.tab.lt
        have zvr := World.block_lt_of_cell? _ _ hT.v0
        rcases hrel with ⟨rfl, rfl, rfl⟩ | ⟨rfl, rfl, rfl⟩ | ⟨rfl, rfl, rfl⟩
        · have eX := hT.v0
          have ec := hT.b
          have hcw : IntKind.i64.wrap (↑a) = ↑a := IntWalk.i64_in _ (by omega)
          have hcw2 : IntKind.i64.wrap (↑s.size + ↑a) = ↑s.size + ↑a := IntWalk.i64_in _ (by omega)
          have hlit : (⟨#[92]⟩ : ByteArray)[0].toNat = 92 := rfl
          clear hT hbel
          rcases Nat.eq_zero_or_pos a with h0 | h0
          · have hcc := fun w => (unhide HCA) w
            rw [h0] at hcc
            have HC := hide hcc
            have H0 := Lib.hid h0
            clear hcc h0
            go_wp2_with (go_at_call 223; refine (unhide HC _).mono ?_; rintro e w' ⟨rfl, rfl⟩)
            go_roundw
            case rel => exact ⟨.inr (.inl ⟨rfl, by rw [H0.out]; simp, by rw [H0.out]; rfl⟩), unhide HB⟩
            case measure => simp [intOf]
          · have HC := hide (unhide HCA)
            have hne : ((a : Int) != 0) = true := by rw [bne_iff_ne]; omega
            have H0 := hide h0
            go_upto_region 9 with (go_at_call 223; refine (unhide HC _).mono ?_; rintro e w' ⟨rfl, rfl⟩)
            refine Reg.region_more (by kernel_rfl) (by kernel_rfl) ?_
            repeat (go_big_quiet_step (fail))
            refine wpQuiet_nil ?_
            intro w9 hb9; obtain ⟨hc9, hf9, hz9⟩ := bcell hb9; (try simp at hz9)
            have HB9 := hide ((unhide HB).trans (hb9.mono (unhide HB).size))
            clear hb9 hc9 hf9
            go_wp2_with fail
            go_roundw
            case rel => exact ⟨.inr (.inl ⟨rfl, by first | rfl | go_num, by rw [decide_eq_true (unhide H0)]⟩), unhide HB9⟩
            case measure => simp [intOf]
        · have eX := hT.v1
          have ec := hT.q
          have hcw : IntKind.i64.wrap (↑b) = ↑b := IntWalk.i64_in _ (by omega)
          have hcw2 : IntKind.i64.wrap ((↑s.size + ↑a) + ↑b) = (↑s.size + ↑a) + ↑b := IntWalk.i64_in _ (by omega)
          have hlit : (⟨#[34]⟩ : ByteArray)[0].toNat = 34 := rfl
          clear hT hbel
          rcases Nat.eq_zero_or_pos b with h0 | h0
          · have hcc := fun w => (unhide HCB) w
            rw [h0] at hcc
            have HC := hide hcc
            have H0 := Lib.hid h0
            clear hcc h0
            go_wp2_with (go_at_call 223; refine (unhide HC _).mono ?_; rintro e w' ⟨rfl, rfl⟩)
            go_roundw
            case rel => exact ⟨.inr (.inr ⟨rfl, by rw [H0.out]; simp, by rw [← HAN.out, HX.out, H0.out]; rfl⟩), unhide HB⟩
            case measure => simp [intOf]
          · have HC := hide (unhide HCB)
            have hne : ((b : Int) != 0) = true := by rw [bne_iff_ne]; omega
            have H0 := hide h0
            go_upto_region 9 with (go_at_call 223; refine (unhide HC _).mono ?_; rintro e w' ⟨rfl, rfl⟩)
            refine Reg.region_more (by kernel_rfl) (by kernel_rfl) ?_
            repeat (go_big_quiet_step (fail))
            refine wpQuiet_nil ?_
            intro w9 hb9; obtain ⟨hc9, hf9, hz9⟩ := bcell hb9; (try simp at hz9)
            have HB9 := hide ((unhide HB).trans (hb9.mono (unhide HB).size))
            clear hb9 hc9 hf9
            go_wp2_with fail
            go_roundw
            case rel => exact ⟨.inr (.inr ⟨rfl, by first | rfl | go_num, by rw [← HAN.out, HX.out, decide_eq_true (by have := unhide H0; omega)]⟩), unhide HB9⟩
            case measure => simp [intOf]
        · clear hT hbel
          have hsum : (↑(s.size + nx) : Int) = ↑s.size + ↑a + ↑b := by rw [HX.out]; omega
          have HSUM := Lib.hid hsum
          clear hsum
          go_wp2_with fail
          go_meet
          exact ⟨by rw [HSUM.out], rfl, unhide HB⟩
  case rest =>
    obtain ⟨rfl, rfl, hbel⟩ := hcut
    have HB := hide hbel
    clear hbel
    cases an
    · have hs2 : s = r := by
        have h0 : nx = 0 := by have := HAN.out; simpa using this
        have h1 := esc_none s.data.toList (by rw [HNX.out, h0])
        rw [ba_eq HRL.out, h1]
      subst hs2
      go_wp2_with fail
      go_ret
      exact ⟨rfl, unhide HB⟩
    · obtain ⟨N, hN⟩ : ∃ N, s.size + nx = N := ⟨_, rfl⟩
      rw [hN]
      have hN2 : N ≤ 2000000 := by omega
      obtain ⟨w1, hmk, hrow, hb1⟩ := make_bytes wc N (by omega)
      have HROW := hide hrow
      have HB1 := hide ((unhide HB).trans (hb1.mono (unhide HB).size))
      have hgB := (unhide HB).size
      clear hrow hb1
      generalize wc.heap.size = g at *
      go_wp2_with fail
      clear hmk
      go_loopw [13, 14] (fun j i wr => ∃ (k : Nat) (L : List UInt8), k ≤ s.size ∧ i = .int .i64 k ∧ j = .int .i64 ↑(esc (s.data.toList.take k)).length ∧ RowB wr g L ∧ L.length = N ∧ L.take (esc (s.data.toList.take k)).length = esc (s.data.toList.take k) ∧ Below w.heap.size w wr) (fun _ i _ => s.size - (intOf i).toNat)
      case atStart => exact ⟨0, _, Nat.zero_le _, rfl, rfl, unhide HROW, List.length_replicate, rfl, unhide HB1⟩
      case round =>
        obtain ⟨k, L, hk, rfl, rfl, hrow, hL, htk, hbel⟩ := hrel
        have HB2 := hide hbel
        have hT := (unhide HT).call hbel
        have hjl := esc_len (s.data.toList.take k)
        rw [take_len s k hk] at hjl
        rcases Nat.lt_or_ge k s.size with hlt | hge
        · have hst := extra_take s k hlt
          have hnx := extra_take_le s.data.toList (k + 1)
          rw [HNX.out, hst] at hnx
          have het := esc_take s k hlt
          obtain ⟨pre, hpre⟩ : ∃ pre, esc (s.data.toList.take k) = pre := ⟨_, rfl⟩
          rw [hpre] at het htk hjl ⊢
          obtain ⟨j, hj⟩ : ∃ j, pre.length = j := ⟨_, rfl⟩
          rw [hj] at htk hjl ⊢
          have HTK := Lib.hid htk
          have HET := Lib.hid het
          have HJ := Lib.hid hj
          have HL := Lib.hid hL
          have hc256 := s[k].toNat_lt
          have ztr := hT.tab.lt
          have zgr := hrow.has.lt
          have HROW2 := hide hrow
          clear hpre hj het htk hbel
          cases hsp : spec s[k]
          · rw [hsp] at hnx
            have eN := hT.no s[k] hsp
            have hnn := nil_neq
            have hesc : escC s[k] = [s[k]] := by unfold escC; rw [if_neg (by rw [hsp]; decide)]
            have HESC := Lib.hid hesc
            have hjN : j < N := by simp at hnx; omega
            obtain ⟨x, ec⟩ : ∃ x : Int, wr.cell? ⟨g, j, none⟩ = some (.int .u8 x) := ⟨_, hrow.has.cell j _ (Mem.bytesV_get L j (by rw [hL]; exact hjN))⟩
            have fc := hrow.has.free j (by rw [Mem.bytesV_len, hL]; exact hjN)
            clear hsp hT hesc hst hnx hjl hrow hL
            go_wp2_with fail
            go_roundw
            case rel =>
              refine ⟨k + 1, L.set j s[k], by omega, by go_num, ?_, (unhide HROW2).set j s[k], by rw [List.length_set]; exact HL.out, ?_, (unhide HB2).setCell hgB _⟩
              · rw [HET.out, HESC.out, List.length_append, HJ.out]; first | rfl | go_num
              · rw [HET.out, HESC.out, List.length_append, HJ.out]
                show (L.set j s[k]).take (j + 1) = _
                rw [set_take L j _ (by rw [HL.out]; exact hjN), HTK.out]
            case measure => simp [intOf]; omega
          · have hsp2 := spec_cases hsp
            rw [hsp] at hnx
            have hesc : escC s[k] = [92, s[k]] := by unfold escC; rw [if_pos hsp]
            have hjN : j + 1 < N := by simp at hnx; omega
            have hjN0 : ¬ N = j := by omega
            have hbel2 := unhide HB2
            have hrow2 := hrow
            clear hsp hst hnx hjl hrow hL
            rcases hsp2 with h34 | h34
            · have hs34 : s[k] = 34 := UInt8.toNat_inj.1 h34
              rw [hs34] at hesc
              have HESC := Lib.hid hesc
              have HS := Lib.hid hs34
              have eN := hT.q
              have hTT := hide hT
              have hnn := nil_neq_no
              clear hs34 hesc hT
              go_upto_region 28 with fail
              clear hnn
              refine Reg.region_more_barT 10 (by kernel_rfl) (by kernel_rfl) (by intro c a d v w h; cases d <;> exact h) ?_
              simp only [List.take_succ_cons, List.take_zero, List.drop_succ_cons, List.drop_zero]
              repeat (go_big_quiet_step (fail))
              refine wpQuiet_nil ?_
              intro w9 hb9; obtain ⟨hc9, hf9, hz9⟩ := bcell hb9; (try simp at hz9)
              have HB9 := hide ((unhide HB2).trans (hb9.mono (unhide HB2).size))
              have HR9 := (unhide HROW2).call hb9
              have HC9 := ((unhide hTT).call hb9)
              clear hc9 hf9
              refine wpList_copy_splice rfl (.tmp 105) (.tmp 111) 66 66 rfl 5 Tryz.underlying66 (by kernel_rfl) (some ⟨g, j, none⟩) (some ⟨bA, 0, none⟩) (N - j) (N - j) 2 cA rfl rfl g j (Mem.bytesV L) 5 HR9 (Mem.bytesV [92, 34]) (by rw [Mem.bytesV_len]; exact (Nat.min_eq_left (by show 2 ≤ N - j; omega)).symm) (fun _ => ⟨rfl, _, rfl, fun q y hy => by rw [Addr.add_mid, Nat.zero_add]; exact HC9.A.cell q y hy⟩) (by rw [Mem.bytesV_len, Mem.bytesV_len, HL.out]; show j + 2 ≤ N; omega) (by intro y hy; simp [Mem.bytesV] at hy; rcases hy with rfl | rfl <;> rfl) w.heap.size w (unhide HB9) hgB ?_
              intro w10 hrow10 hb10
              have hrow11 := hrow10.out
              rw [splice_map] at hrow11
              have HR10 : Hid (RowB w10 g (splice L j [92, 34])) := hide hrow11
              have hlen2 : (Mem.bytesV [92, 34]).length = 2 := rfl
              have HB10 := hide hb10
              clear hrow10 hrow11 hb10 HR9 HC9 hb9 hz9 eN hrow2 hbel2
              go_wp2_with fail
              go_roundw
              case rel =>
                refine ⟨k + 1, splice L j [92, 34], by omega, by go_num, ?_, unhide HR10, by rw [length_splice _ _ _ (by rw [HL.out]; show j + 2 ≤ N; omega)]; exact HL.out, ?_, unhide HB10⟩
                · rw [HET.out, HS.out, HESC.out, List.length_append, HJ.out]; first | rfl | go_num
                · rw [HET.out, HS.out, HESC.out, List.length_append, HJ.out]
                  rw [splice_take L j _ (by rw [HL.out]; show j + 2 ≤ N; omega), HTK.out]
              case measure => simp [intOf]; omega
            · have hs34 : s[k] = 92 := UInt8.toNat_inj.1 h34
              rw [hs34] at hesc
              have HESC := Lib.hid hesc
              have HS := Lib.hid hs34
              have eN := hT.b
              have hTT := hide hT
              have hnn := nil_neq_no
              clear hs34 hesc hT
              go_upto_region 28 with fail
              clear hnn
              refine Reg.region_more_barT 10 (by kernel_rfl) (by kernel_rfl) (by intro c a d v w h; cases d <;> exact h) ?_
              simp only [List.take_succ_cons, List.take_zero, List.drop_succ_cons, List.drop_zero]
              repeat (go_big_quiet_step (fail))
              refine wpQuiet_nil ?_
              intro w9 hb9; obtain ⟨hc9, hf9, hz9⟩ := bcell hb9; (try simp at hz9)
              have HB9 := hide ((unhide HB2).trans (hb9.mono (unhide HB2).size))
              have HR9 := (unhide HROW2).call hb9
              have HC9 := ((unhide hTT).call hb9)
              clear hc9 hf9
              refine wpList_copy_splice rfl (.tmp 105) (.tmp 111) 66 66 rfl 5 Tryz.underlying66 (by kernel_rfl) (some ⟨g, j, none⟩) (some ⟨bC, 0, none⟩) (N - j) (N - j) 2 cC rfl rfl g j (Mem.bytesV L) 5 HR9 (Mem.bytesV [92, 92]) (by rw [Mem.bytesV_len]; exact (Nat.min_eq_left (by show 2 ≤ N - j; omega)).symm) (fun _ => ⟨rfl, _, rfl, fun q y hy => by rw [Addr.add_mid, Nat.zero_add]; exact HC9.C.cell q y hy⟩) (by rw [Mem.bytesV_len, Mem.bytesV_len, HL.out]; show j + 2 ≤ N; omega) (by intro y hy; simp [Mem.bytesV] at hy; rcases hy with rfl | rfl <;> rfl) w.heap.size w (unhide HB9) hgB ?_
              intro w10 hrow10 hb10
              have hrow11 := hrow10.out
              rw [splice_map] at hrow11
              have HR10 : Hid (RowB w10 g (splice L j [92, 92])) := hide hrow11
              have hlen2 : (Mem.bytesV [92, 92]).length = 2 := rfl
              have HB10 := hide hb10
              clear hrow10 hrow11 hb10 HR9 HC9 hb9 hz9 eN hrow2 hbel2
              go_wp2_with fail
              go_roundw
              case rel =>
                refine ⟨k + 1, splice L j [92, 92], by omega, by go_num, ?_, unhide HR10, by rw [length_splice _ _ _ (by rw [HL.out]; show j + 2 ≤ N; omega)]; exact HL.out, ?_, unhide HB10⟩
                · rw [HET.out, HS.out, HESC.out, List.length_append, HJ.out]; first | rfl | go_num
                · rw [HET.out, HS.out, HESC.out, List.length_append, HJ.out]
                  rw [splice_take L j _ (by rw [HL.out]; show j + 2 ≤ N; omega), HTK.out]
              case measure => simp [intOf]; omega
        · have hT2 : s.data.toList.take k = s.data.toList := List.take_of_length_le (by simpa using hge)
          rw [hT2] at htk hjl
          have hLr : L = r.data.toList := by
            rw [HRL.out, ← htk, List.take_of_length_le]
            rw [hjl, HNX.out]; omega
          have hLN : L.length = N := hL
          have HLR := Lib.hid hLr
          have hrow2 := hrow
          clear hT hbel hT2 htk hjl hLr hrow hL
          have HAS := hide hrow2.has
          clear hrow2
          have hres : (⟨L.toArray⟩ : ByteArray) = r := by rw [HLR.out]
          have HRES := Lib.hid hres
          clear hres
          go_wp2_with (refine Mem.wpList_text rfl 66 9 5 _ rfl g N N L rfl Tryz.underlying66 Tryz.underlying9 Tryz.underlying5 hLN (unhide HAS) ?_)
          go_ret
          exact ⟨by first | rfl | (rw [HRES.out] <;> rfl), unhide HB2⟩
end Go.Proofs.YtbpopmbabckojaaGreatDoor.Sp
end

/- strings.Replacer.Replace at a fresh replacer of these two bytes; token.Quote. -/
section
namespace Go.Proofs.YtbpopmbabckojaaGreatDoor.Sp
open Go.RowKit Sl

theorem rdSet {w : World} {v : Value} {n sz : Nat} {xs : List Value} (h : Rd w v n sz xs) {a : Addr} {y : Value} (hc : w.cell? a = some y) (hne : ∀ u ∈ xs, u ≠ y) (u' : Value) : Rd (w.setCell a u') v n sz xs := by
  obtain ⟨ao, cap, e, hcp, hz, hl, hcc⟩ := h
  refine ⟨ao, cap, e, hcp, hz, hl, fun hx => ?_⟩
  obtain ⟨b, off, e2, hlt, hcc⟩ := hcc hx
  refine ⟨b, off, e2, by simpa [World.setCell] using hlt, fun i u hu => ?_⟩
  have h1 := hcc i u hu
  rw [World.cell?_setCell_other _ _ _ _ (by rintro rfl; rw [hc] at h1; exact hne u (List.mem_of_getElem? hu) (Option.some.inj h1).symm)]
  exact h1

theorem RepTab.mono {B C : Nat} {w : World} {t : Nat} (h : RepTab B w t) (hC : C ≤ B) : RepTab C w t := by
  obtain ⟨h0, A, D, v, h1, ⟨b2, c2, rfl, z2, h2⟩, ⟨b3, c3, rfl, z3, h3⟩, h4⟩ := h
  exact ⟨by omega, _, _, v, h1, ⟨b2, c2, rfl, by omega, h2⟩, ⟨b3, c3, rfl, by omega, h3⟩, World.ownsRow.mono h4 hC⟩

theorem buildOnce_any (b : Nat) (v x3 : Value) (w : World) (h4 : w.cell? ⟨b, 4, none⟩ = some v) (hv : Rd w v 4 1 (strV repA)) (h3 : w.cell? ⟨b, 3, none⟩ = some x3) (f3 : w.frozen? ⟨b, 3, none⟩ = false) (f4 : w.frozen? ⟨b, 4, none⟩ = false) :
    Calls Tryz.prog 149 #[.pointer (some ⟨b, 0, none⟩)] w fun e w' => e = .returned (.tuple #[]) ∧ ∃ t w1, RepTab w.heap.size w1 t ∧ Below w.heap.size w w1 ∧
      w' = (w1.setCell ⟨b, 3, none⟩ (.iface 207 (.pointer (some ⟨t, 0, none⟩)))).setCell ⟨b, 4, none⟩ (.slice none 0 0) := by
  have hbw := World.block_lt_of_cell? w _ h4
  have HBD := hide (build_any b v w h4 hv)
  have H3 := hide h3
  have H4 := hide h4
  have F3 := hide f3
  have F4 := hide f4
  clear hv h3 h4 f3 f4
  go_enter Tryz.func149, Tryz.ntmps149
  go_wp2_with (go_at_call 158; refine (unhide HBD).mono ?_; rintro e w1 ⟨t, rfl, hrt, hb⟩; have c3 := (hb.cell (p := ⟨b, 3, none⟩) hbw).trans (unhide H3); have c4 := (hb.cell (p := ⟨b, 4, none⟩) hbw).trans (unhide H4); have g3 := (hb.frozen (p := ⟨b, 3, none⟩) hbw).trans (unhide F3); have g4 := (hb.frozen (p := ⟨b, 4, none⟩) hbw).trans (unhide F4); have hbw1 := Nat.lt_of_lt_of_le hbw hb.size; have HR := hide hrt; have HB := hide hb; clear hrt hb)
  go_end0
  exact ⟨rfl, t, w1, unhide HR, unhide HB, rfl⟩

theorem esc_size (s : ByteArray) : (esc s.data.toList).length ≤ 2 * s.size := by
  have h1 := esc_len s.data.toList
  have h2 := extra_le s.data.toList
  have h3 : s.data.toList.length = s.size := by simp
  omega

set_option maxRecDepth 100000 in
theorem replace_any (B b : Nat) (v : Value) (hB : B ≤ b) (s : ByteArray) (hs : s.size ≤ 1000000) (w : World) (hn : RepNew w b v) (hBw : B ≤ w.heap.size) :
    Calls Tryz.prog 134 #[.pointer (some ⟨b, 0, none⟩), .string s] w fun e w' => e = .returned (.string ⟨(esc s.data.toList).toArray⟩) ∧ Below B w w' := by
  have hbw := hn.H.lt
  obtain ⟨hH, hR⟩ := hn
  have H1 := hH.put 1 (.int .i32 1)
  simp only [List.set_cons_succ, List.set_cons_zero] at H1
  have R1 : Rd (w.setCell ⟨b, 1, none⟩ (.int .i32 1)) v 4 1 (strV repA) := rdSet hR (hH.cell 1 _ rfl) (by intro u hu; simp [repA, strV] at hu; rcases hu with rfl | rfl | rfl | rfl <;> (intro e; cases e)) _
  have hdo := do_first b 0 149 #[.pointer (some ⟨b, 0, none⟩)] (fun _ _ => by rfl) w
    (fun w2 => ∃ t, RepTab (b + 1) w2 t ∧ Reg.Has w2 b [.int .u32 0, .int .i32 1, .int .u32 0, .iface 207 (.pointer (some ⟨t, 0, none⟩)), .slice none 0 0] ∧ Below B w w2)
    (hH.cell 0 _ rfl) (hH.cell 1 _ rfl) (hH.free 0 (by simp)) (hH.free 1 (by simp)) (by
      refine (buildOnce_any b v .nilIface _ (H1.cell 4 _ rfl) R1 (H1.cell 3 _ rfl) (H1.free 3 (by simp)) (H1.free 4 (by simp))).mono ?_
      rintro e w' ⟨rfl, t, w1, hrt, hb, rfl⟩
      have hbW : b < (w.setCell ⟨b, 1, none⟩ (.int .i32 1)).heap.size := H1.lt
      have h2 := ((H1.call hb).put 3 (.iface 207 (.pointer (some ⟨t, 0, none⟩)))).put 4 (.slice none 0 0)
      simp only [List.set_cons_succ, List.set_cons_zero] at h2
      refine ⟨rfl, h2.cell 0 _ rfl, h2.cell 1 _ rfl, h2.free 0 (by simp), h2.free 1 (by simp), t, ?_, h2, ?_⟩
      · exact ((hrt.mono (by omega)).set b 3 (Nat.lt_succ_self b) _).set b 4 (Nat.lt_succ_self b) _
      · exact ((((Below.refl B w).setCell (p := ⟨b, 1, none⟩) hB _).trans (hb.mono (by simpa [World.setCell] using hBw))).setCell (p := ⟨b, 3, none⟩) hB _).setCell (p := ⟨b, 4, none⟩) hB _)
  have HDO := hide hdo
  have hmf : ∀ (fn : Fn) (first cap : Array Value) (w : World), (Instr.makeFunc fn first cap).run Tryz.prog w = .ok (.func fn first cap) w := fun _ _ _ _ => rfl
  clear hdo H1 R1 hR
  go_enter Tryz.func134, Tryz.ntmps134
  go_wp2_with (first
    | (go_at_call 148; refine (unhide HDO).mono ?_; rintro e w1 ⟨rfl, w2, ⟨t, hrt, h2, hb2⟩, rfl⟩; have R3 := hide (((hrt.drew).set b 0 (Nat.lt_succ_self b) (.int .u32 1)).set b 1 (Nat.lt_succ_self b) (.int .i32 0)); have H3 := ((h2.drew).put 0 (.int .u32 1)).put 1 (.int .i32 0); have B3 := hide ((hb2.drew.setCell (p := ⟨b, 0, none⟩) hB (.int .u32 1)).setCell (p := ⟨b, 1, none⟩) hB (.int .i32 0)); clear hrt h2 hb2; generalize (w2.drew.setCell ⟨b, 0, none⟩ (.int .u32 1)).setCell ⟨b, 1, none⟩ (.int .i32 0) = w3 at R3 H3 B3 ⊢; have c3 := H3.cell 3 _ rfl; have z3 := H3.lt; clear H3)
    | (go_at_call 221; refine (bsr_any (b + 1) t s hs _ (unhide R3)).mono ?_; rintro e w4 ⟨rfl, hb4⟩; have B4 := hide hb4; clear hb4))
  go_ret
  exact ⟨rfl, (unhide B3).trans ((unhide B4).mono (Nat.le_trans hBw (unhide B3).size))⟩

/-- what Quote makes of a text -/
def quoS (s : ByteArray) : ByteArray := (⟨#[34]⟩ ++ ⟨(esc s.data.toList).toArray⟩) ++ ⟨#[34]⟩

set_option maxRecDepth 100000 in
theorem quote_ok (s : ByteArray) (hs : s.size ≤ 1000000) (hok : allS chr s.data.toList = true) (w : World) :
    Calls Tryz.prog 113 #[.string s] w fun e w' => e = .returned (.tuple #[.string (quoS s), .int .i64 0]) ∧ Below w.heap.size w w' := by
  have hall := fun w => all_any s (by omega) 2 chr kind_and2 rfl w
  rw [hok] at hall
  have HALL := hide hall
  have hq : quoS s = (⟨#[34]⟩ ++ ⟨(esc s.data.toList).toArray⟩) ++ ⟨#[34]⟩ := rfl
  have hez := esc_size s
  obtain ⟨r, hr⟩ : ∃ r : ByteArray, (⟨(esc s.data.toList).toArray⟩ : ByteArray) = r := ⟨_, rfl⟩
  have hrz : r.size ≤ 2 * s.size := by rw [← hr, size_list (l := esc s.data.toList) rfl]; exact hez
  have hrep := fun B b v hB w hn hBw => replace_any B b v hB s hs w hn hBw
  rw [hr] at hrep hq
  rw [hq]
  have HREP := hide hrep
  clear hall hok hrep hr hq hez
  go_enter Tryz.func113, Tryz.ntmps113
  go_wp2_with (first
    | (go_at_call 110; refine (unhide HALL _).mono ?_; rintro e w1 ⟨rfl, hb1⟩; have HB := hide hb1; clear hb1)
    | (go_at_call 133; refine (newRep_any _ _ (rd_litS w1 repA 4 rfl)).mono ?_; rintro e w2 ⟨b, v, rfl, hbz, hnew, hb2⟩; have HN := hide hnew; have hb0 : w.heap.size ≤ b := (by have h9 := (unhide HB).size; rw [World.size_alloc] at hbz; omega); have HB := hide (((unhide HB).alloc (unhide HB).size _).trans (hb2.mono (by have h9 := (unhide HB).size; rw [World.size_alloc]; omega))); clear hb2 hbz hnew)
    | (go_at_call 134; refine (unhide HREP w.heap.size b v hb0 _ (unhide HN) (unhide HB).size).mono ?_; rintro e w3 ⟨rfl, hb3⟩; have HB := hide ((unhide HB).trans hb3); clear hb3))
  go_ret2
  exact ⟨rfl, unhide HB⟩

theorem quote_no (s : ByteArray) (hs : s.size ≤ 1000000) (hok : allS chr s.data.toList = false) (w : World) :
    Calls Tryz.prog 113 #[.string s] w fun e w' => e = .returned (.tuple #[.string ⟨#[]⟩, .int .i64 4]) ∧ Below w.heap.size w w' := by
  have hall := fun w => all_any s (by omega) 2 chr kind_and2 rfl w
  rw [hok] at hall
  have HALL := hide hall
  clear hall hok
  go_enter Tryz.func113, Tryz.ntmps113
  go_wp2_with (go_at_call 110; refine (unhide HALL _).mono ?_; rintro e w1 ⟨rfl, hb1⟩; have HB := hide hb1; clear hb1)
  go_ret2
  exact ⟨rfl, unhide HB⟩
theorem quote_any (s : ByteArray) (hs : s.size ≤ 1000000) (w : World) :
    Calls Tryz.prog 113 #[.string s] w fun e w' => ∃ q, e = .returned (.tuple #[.string q, .int .i64 (if allS chr s.data.toList = true then 0 else 4)]) ∧ Below w.heap.size w w' := by
  cases h : allS chr s.data.toList
  · exact (quote_no s hs h w).mono fun e w' ⟨he, hb⟩ => ⟨_, he, hb⟩
  · exact (quote_ok s hs h w).mono fun e w' ⟨he, hb⟩ => ⟨_, he, hb⟩
end Go.Proofs.YtbpopmbabckojaaGreatDoor.Sp
end
