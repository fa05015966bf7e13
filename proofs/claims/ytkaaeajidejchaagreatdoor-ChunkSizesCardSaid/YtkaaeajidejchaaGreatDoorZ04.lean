/- Lemmas for the statement's proof, several texts in one: O6, O7, P3, Hx. -/
import Derived.Test.YtkaaeajidejchaaGreatDoorZ03
import Derived.Deep.CutRange
import Derived.Test.YtkaaeajidejchaaGreatDoorZ01
import Derived.Test.YtkaaeajidejchaaGreatDoorZ02
/- The library's byteStringReplacer, its table as token.Quote's: what Replace makes. -/
namespace Go.Proofs.YtkaaeajidejchaaGreatDoor.Sp
open Go.RowKit Sl

/-- what a reader of the table meets -/
structure TabAt (w : World) (t bA cA bC cC gv cv : Nat) : Prop where
  tab : Reg.Has w t (tabL (.slice (some ⟨bA, 0, none⟩) 2 cA) (.slice (some ⟨bC, 0, none⟩) 2 cC) (.slice (some ⟨gv, 0, none⟩) 2 cv))
  A : Reg.Has w bA (Mem.bytesV [92, 34])
  C : Reg.Has w bC (Mem.bytesV [92, 92])
  v0 : w.cell? ⟨gv, 0, none⟩ = some (.string ⟨#[92]⟩)
  v1 : w.cell? ⟨gv, 1, none⟩ = some (.string ⟨#[34]⟩)
theorem TabAt.call {w w' : World} {t bA cA bC cC gv cv : Nat} (h : TabAt w t bA cA bC cC gv cv) (hb : Below w.heap.size w w') : TabAt w' t bA cA bC cC gv cv :=
  ⟨h.tab.call hb, h.A.call hb, h.C.call hb, (hb.cell (p := ⟨gv, 0, none⟩) (World.block_lt_of_cell? w _ h.v0)).trans h.v0, (hb.cell (p := ⟨gv, 1, none⟩) (World.block_lt_of_cell? w _ h.v1)).trans h.v1⟩
theorem RepTab.at {B : Nat} {w : World} {t : Nat} (h : RepTab B w t) : ∃ bA cA bC cC gv cv, TabAt w t bA cA bC cC gv cv := by
  obtain ⟨_, A, C, v, h1, ⟨b2, c2, rfl, _, h2⟩, ⟨b3, c3, rfl, _, h3⟩, h4⟩ := h
  obtain ⟨gv, cv, rfl, _, _⟩ := World.ownsRow.form h4 (by decide)
  exact ⟨b2, c2, b3, c3, gv, cv, h1, h2, h3, h4.cellAt 0 (by decide), h4.cellAt 1 (by decide)⟩
section
variable {w : World} {t bA cA bC cC gv cv : Nat} (h : TabAt w t bA cA bC cC gv cv)
include h
theorem TabAt.list : w.cell? ⟨t, 256, none⟩ = some (.slice (some ⟨gv, 0, none⟩) 2 cv) := h.tab.cell 256 _ (tabL_S _ _ _)
theorem TabAt.q : w.cell? ⟨t, 34, none⟩ = some (.slice (some ⟨bA, 0, none⟩) 2 cA) := h.tab.cell 34 _ (tabL_A _ _ _)
theorem TabAt.b : w.cell? ⟨t, 92, none⟩ = some (.slice (some ⟨bC, 0, none⟩) 2 cC) := h.tab.cell 92 _ (tabL_B _ _ _)
theorem TabAt.no (c : UInt8) (hc : spec c = false) : w.cell? ⟨t, c.toNat, none⟩ = some (.slice none 0 0) := by
  rw [spec_nat] at hc
  simp at hc
  exact h.tab.cell c.toNat _ (tabL_no _ _ _ _ c.toNat_lt (by omega) (by omega))
end
theorem spec_cases {c : UInt8} (h : spec c = true) : c.toNat = 34 ∨ c.toNat = 92 := by
  rw [spec_nat] at h
  simp at h
  omega

set_option maxRecDepth 100000 in
set_option maxHeartbeats 4000000 in
theorem bsr_any (B t : Nat) (s : ByteArray) (hs : s.size ≤ 1000000) (w : World) (hr : RepTab B w t) :
    Calls Tryz.prog 183 #[.pointer (some ⟨t, 0, none⟩), .string s] w fun e w' => e = .returned (.string ⟨(esc s.data.toList).toArray⟩) ∧ Below w.heap.size w w' := by
  obtain ⟨bA, cA, bC, cC, gv, cv, hT⟩ := hr.at
  obtain ⟨nx, hnx⟩ : ∃ nx, extra s.data.toList = nx := ⟨_, rfl⟩
  have hxl : nx ≤ s.size := by rw [← hnx]; have := extra_le s.data.toList; simpa using this
  obtain ⟨an, han⟩ : ∃ an, decide (0 < nx) = an := ⟨_, rfl⟩
  have HT := hide hT
  have HNX := Lib.hid hnx
  have HAN := Lib.hid han
  have zt := hT.tab.lt
  have zv := World.block_lt_of_cell? w _ hT.v0
  clear hT hr hnx han
  obtain ⟨r, hr⟩ : ∃ r : ByteArray, (⟨(esc s.data.toList).toArray⟩ : ByteArray) = r := ⟨_, rfl⟩
  rw [hr]
  have hrl : r.data.toList = esc s.data.toList := by rw [← hr]
  have HRL := Lib.hid hrl
  clear hr hrl
  go_enter Tryz.func183, Tryz.ntmps183
  have tS := (unhide HT).list
  go_upto_if 26 with fail
  go_cut [5, 6] (fun n any wc => n = .int .i64 ↑(s.size + nx) ∧ any = .bool an ∧ Below w.heap.size w wc)
  case first =>
    rcases Nat.lt_or_ge s.size 16 with h16 | h16
    · go_wp2_with fail
      go_loopw [5, 6, 10] (fun n any i wr => ∃ k : Nat, k ≤ s.size ∧ i = .int .i64 k ∧ n = .int .i64 ↑(s.size + extra (s.data.toList.take k)) ∧ any = .bool (decide (0 < extra (s.data.toList.take k))) ∧ Below w.heap.size w wr) (fun _ _ i _ => s.size - (intOf i).toNat)
      case atStart => exact ⟨0, Nat.zero_le _, rfl, rfl, rfl, Below.refl _ _⟩
      case round =>
        obtain ⟨k, hk, rfl, rfl, rfl, hbel⟩ := hrel
        have HB := hide hbel
        have hT := (unhide HT).call hbel
        have hle := extra_take_le s.data.toList k
        rw [HNX.out] at hle
        rcases Nat.lt_or_ge k s.size with hlt | hge
        · have hst := extra_take s k hlt
          obtain ⟨m, hm⟩ : ∃ m, extra (s.data.toList.take k) = m := ⟨_, rfl⟩
          rw [hm] at hst hle ⊢
          obtain ⟨a0, ha0⟩ : ∃ a0, decide (0 < m) = a0 := ⟨_, rfl⟩
          rw [ha0]
          have HA0 := Lib.hid ha0
          have HST := Lib.hid hst
          have hc256 := s[k].toNat_lt
          have ztr := hT.tab.lt
          clear hm ha0 hst hbel
          cases hsp : spec s[k]
          · have eN := hT.no s[k] hsp
            have hnn := nil_neq
            have HSP := Lib.hid hsp
            have HTT := hide hT
            clear hsp hT
            go_wp2_with fail
            go_roundw
            case rel => exact ⟨k + 1, by omega, by go_num, by rw [HST.out, HSP.out]; rfl, by rw [HST.out, HSP.out, ← HA0.out]; rfl, unhide HB⟩
            case measure => simp [intOf]; omega
          · have hsp2 := spec_cases hsp
            have HSP := Lib.hid hsp
            clear hsp
            rcases hsp2 with h34 | h34
            · have eN := hT.q
              have hnn := nil_neq_no
              clear hT
              go_wp2_with fail
              go_roundw
              case rel => exact ⟨k + 1, by omega, by go_num, by rw [HST.out, HSP.out]; go_num, by rw [HST.out, HSP.out]; simp, unhide HB⟩
              case measure => simp [intOf]; omega
            · have eN := hT.b
              have hnn := nil_neq_no
              clear hT
              go_wp2_with fail
              go_roundw
              case rel => exact ⟨k + 1, by omega, by go_num, by rw [HST.out, HSP.out]; go_num, by rw [HST.out, HSP.out]; simp, unhide HB⟩
              case measure => simp [intOf]; omega
        · have hT2 : s.data.toList.take k = s.data.toList := List.take_of_length_le (by simpa using hge)
          rw [hT2, HNX.out, HAN.out]
          clear hT hbel hT2 hle
          go_wp2_with fail
          go_meet
          exact ⟨rfl, rfl, unhide HB⟩
    · have hx := extra_count s.data.toList
      rw [HNX.out] at hx
      obtain ⟨a, ha⟩ : ∃ a, s.data.toList.count 92 = a := ⟨_, rfl⟩
      obtain ⟨b, hb⟩ : ∃ b, s.data.toList.count 34 = b := ⟨_, rfl⟩
      have hcA := fun w => Tryz.strings_Count_one s 92 w
      have hcB := fun w => Tryz.strings_Count_one s 34 w
      unfold Lib.countByte at hcA hcB
      rw [ha] at hx hcA
      rw [hb] at hx hcB
      have HX := Lib.hid hx
      have HCA := hide hcA
      have HCB := hide hcB
      have hal : a + b ≤ s.size := by omega
      clear ha hb hx hcA hcB
      go_wp2_with fail
      go_loopw [5, 6, 32] (fun n any i wr => ((i = .int .i64 0 ∧ n = .int .i64 ↑s.size ∧ any = .bool false) ∨ (i = .int .i64 1 ∧ n = .int .i64 (↑s.size + ↑a) ∧ any = .bool (decide (0 < a))) ∨ (i = .int .i64 2 ∧ n = .int .i64 (↑s.size + ↑a + ↑b) ∧ any = .bool an)) ∧ Below w.heap.size w wr) (fun _ _ i _ => 2 - (intOf i).toNat)
      case atStart => exact ⟨.inl ⟨rfl, rfl, rfl⟩, Below.refl _ _⟩
      case round =>
        obtain ⟨hrel, hbel⟩ := hrel
        have HB := hide hbel
        have hT := (unhide HT).call hbel
        have tS := hT.list
        have ztr := hT.tab.lt
        have zvr := World.block_lt_of_cell? _ _ hT.v0
        rcases hrel with ⟨rfl, rfl, rfl⟩ | ⟨rfl, rfl, rfl⟩ | ⟨rfl, rfl, rfl⟩
        · have eX := hT.v0
          have ec := hT.b
          have hcw : IntKind.i64.wrap (↑a) = ↑a := IntWalk.i64_in _ (by omega)
          have hcw2 : IntKind.i64.wrap (↑s.size + ↑a) = ↑s.size + ↑a := IntWalk.i64_in _ (by omega)
          have hlit : (⟨#[92]⟩ : ByteArray)[0].toNat = 92 := rfl
          clear hT hbel
          rcases Nat.eq_zero_or_pos a with h0 | h0
          · have hcc := fun w => (unhide HCA) w
            rw [h0] at hcc
            have HC := hide hcc
            have H0 := Lib.hid h0
            clear hcc h0
            go_wp2_with (go_at_call 185; refine (unhide HC _).mono ?_; rintro e w' ⟨rfl, rfl⟩)
            go_roundw
            case rel => exact ⟨.inr (.inl ⟨rfl, by rw [H0.out]; simp, by rw [H0.out]; rfl⟩), unhide HB⟩
            case measure => simp [intOf]
          · have HC := hide (unhide HCA)
            have hne : ((a : Int) != 0) = true := by rw [bne_iff_ne]; omega
            have H0 := hide h0
            go_upto_region 9 with (go_at_call 185; refine (unhide HC _).mono ?_; rintro e w' ⟨rfl, rfl⟩)
            refine Reg.region_more (by kernel_rfl) (by kernel_rfl) ?_
            repeat (go_big_quiet_step (fail))
            refine wpQuiet_nil ?_
            intro w9 hb9; obtain ⟨hc9, hf9, hz9⟩ := bcell hb9; (try simp at hz9)
            have HB9 := hide ((unhide HB).trans (hb9.mono (unhide HB).size))
            clear hb9 hc9 hf9
            go_wp2_with fail
            go_roundw
            case rel => exact ⟨.inr (.inl ⟨rfl, by first | rfl | go_num, by rw [decide_eq_true (unhide H0)]⟩), unhide HB9⟩
            case measure => simp [intOf]
        · have eX := hT.v1
          have ec := hT.q
          have hcw : IntKind.i64.wrap (↑b) = ↑b := IntWalk.i64_in _ (by omega)
          have hcw2 : IntKind.i64.wrap ((↑s.size + ↑a) + ↑b) = (↑s.size + ↑a) + ↑b := IntWalk.i64_in _ (by omega)
          have hlit : (⟨#[34]⟩ : ByteArray)[0].toNat = 34 := rfl
          clear hT hbel
          rcases Nat.eq_zero_or_pos b with h0 | h0
          · have hcc := fun w => (unhide HCB) w
            rw [h0] at hcc
            have HC := hide hcc
            have H0 := Lib.hid h0
            clear hcc h0
            go_wp2_with (go_at_call 185; refine (unhide HC _).mono ?_; rintro e w' ⟨rfl, rfl⟩)
            go_roundw
            case rel => exact ⟨.inr (.inr ⟨rfl, by rw [H0.out]; simp, by rw [← HAN.out, HX.out, H0.out]; rfl⟩), unhide HB⟩
            case measure => simp [intOf]
          · have HC := hide (unhide HCB)
            have hne : ((b : Int) != 0) = true := by rw [bne_iff_ne]; omega
            have H0 := hide h0
            go_upto_region 9 with (go_at_call 185; refine (unhide HC _).mono ?_; rintro e w' ⟨rfl, rfl⟩)
            refine Reg.region_more (by kernel_rfl) (by kernel_rfl) ?_
            repeat (go_big_quiet_step (fail))
            refine wpQuiet_nil ?_
            intro w9 hb9; obtain ⟨hc9, hf9, hz9⟩ := bcell hb9; (try simp at hz9)
            have HB9 := hide ((unhide HB).trans (hb9.mono (unhide HB).size))
            clear hb9 hc9 hf9
            go_wp2_with fail
            go_roundw
            case rel => exact ⟨.inr (.inr ⟨rfl, by first | rfl | go_num, by rw [← HAN.out, HX.out, decide_eq_true (by have := unhide H0; omega)]⟩), unhide HB9⟩
            case measure => simp [intOf]
        · clear hT hbel
          have hsum : (↑(s.size + nx) : Int) = ↑s.size + ↑a + ↑b := by rw [HX.out]; omega
          have HSUM := Lib.hid hsum
          clear hsum
          go_wp2_with fail
          go_meet
          exact ⟨by rw [HSUM.out], rfl, unhide HB⟩
  case rest =>
    obtain ⟨rfl, rfl, hbel⟩ := hcut
    have HB := hide hbel
    clear hbel
    cases an
    · have hs2 : s = r := by
        have h0 : nx = 0 := by have := HAN.out; simpa using this
        have h1 := esc_none s.data.toList (by rw [HNX.out, h0])
        rw [ba_eq HRL.out, h1]
      subst hs2
      go_wp2_with fail
      go_ret
      exact ⟨rfl, unhide HB⟩
    · obtain ⟨N, hN⟩ : ∃ N, s.size + nx = N := ⟨_, rfl⟩
      rw [hN]
      have hN2 : N ≤ 2000000 := by omega
      obtain ⟨w1, hmk, hrow, hb1⟩ := make_bytes wc N (by omega)
      have HROW := hide hrow
      have HB1 := hide ((unhide HB).trans (hb1.mono (unhide HB).size))
      have hgB := (unhide HB).size
      clear hrow hb1
      generalize wc.heap.size = g at *
      go_wp2_with fail
      clear hmk
      go_loopw [13, 14] (fun j i wr => ∃ (k : Nat) (L : List UInt8), k ≤ s.size ∧ i = .int .i64 k ∧ j = .int .i64 ↑(esc (s.data.toList.take k)).length ∧ RowB wr g L ∧ L.length = N ∧ L.take (esc (s.data.toList.take k)).length = esc (s.data.toList.take k) ∧ Below w.heap.size w wr) (fun _ i _ => s.size - (intOf i).toNat)
      case atStart => exact ⟨0, _, Nat.zero_le _, rfl, rfl, unhide HROW, List.length_replicate, rfl, unhide HB1⟩
      case round =>
        obtain ⟨k, L, hk, rfl, rfl, hrow, hL, htk, hbel⟩ := hrel
        have HB2 := hide hbel
        have hT := (unhide HT).call hbel
        have hjl := esc_len (s.data.toList.take k)
        rw [take_len s k hk] at hjl
        rcases Nat.lt_or_ge k s.size with hlt | hge
        · have hst := extra_take s k hlt
          have hnx := extra_take_le s.data.toList (k + 1)
          rw [HNX.out, hst] at hnx
          have het := esc_take s k hlt
          obtain ⟨pre, hpre⟩ : ∃ pre, esc (s.data.toList.take k) = pre := ⟨_, rfl⟩
          rw [hpre] at het htk hjl ⊢
          obtain ⟨j, hj⟩ : ∃ j, pre.length = j := ⟨_, rfl⟩
          rw [hj] at htk hjl ⊢
          have HTK := Lib.hid htk
          have HET := Lib.hid het
          have HJ := Lib.hid hj
          have HL := Lib.hid hL
          have hc256 := s[k].toNat_lt
          have ztr := hT.tab.lt
          have zgr := hrow.has.lt
          have HROW2 := hide hrow
          clear hpre hj het htk hbel
          cases hsp : spec s[k]
          · rw [hsp] at hnx
            have eN := hT.no s[k] hsp
            have hnn := nil_neq
            have hesc : escC s[k] = [s[k]] := by unfold escC; rw [if_neg (by rw [hsp]; decide)]
            have HESC := Lib.hid hesc
            have hjN : j < N := by simp at hnx; omega
            obtain ⟨x, ec⟩ : ∃ x : Int, wr.cell? ⟨g, j, none⟩ = some (.int .u8 x) := ⟨_, hrow.has.cell j _ (Mem.bytesV_get L j (by rw [hL]; exact hjN))⟩
            have fc := hrow.has.free j (by rw [Mem.bytesV_len, hL]; exact hjN)
            clear hsp hT hesc hst hnx hjl hrow hL
            go_wp2_with fail
            go_roundw
            case rel =>
              refine ⟨k + 1, L.set j s[k], by omega, by go_num, ?_, (unhide HROW2).set j s[k], by rw [List.length_set]; exact HL.out, ?_, (unhide HB2).setCell hgB _⟩
              · rw [HET.out, HESC.out, List.length_append, HJ.out]; first | rfl | go_num
              · rw [HET.out, HESC.out, List.length_append, HJ.out]
                show (L.set j s[k]).take (j + 1) = _
                rw [set_take L j _ (by rw [HL.out]; exact hjN), HTK.out]
            case measure => simp [intOf]; omega
          · have hsp2 := spec_cases hsp
            rw [hsp] at hnx
            have hesc : escC s[k] = [92, s[k]] := by unfold escC; rw [if_pos hsp]
            have hjN : j + 1 < N := by simp at hnx; omega
            have hjN0 : ¬ N = j := by omega
            have hbel2 := unhide HB2
            have hrow2 := hrow
            clear hsp hst hnx hjl hrow hL
            rcases hsp2 with h34 | h34
            · have hs34 : s[k] = 34 := UInt8.toNat_inj.1 h34
              rw [hs34] at hesc
              have HESC := Lib.hid hesc
              have HS := Lib.hid hs34
              have eN := hT.q
              have hTT := hide hT
              have hnn := nil_neq_no
              clear hs34 hesc hT
              go_upto_region 28 with fail
              clear hnn
              refine Reg.region_more_barT 10 (by kernel_rfl) (by kernel_rfl) (by intro c a d v w h; cases d <;> exact h) ?_
              simp only [List.take_succ_cons, List.take_zero, List.drop_succ_cons, List.drop_zero]
              repeat (go_big_quiet_step (fail))
              refine wpQuiet_nil ?_
              intro w9 hb9; obtain ⟨hc9, hf9, hz9⟩ := bcell hb9; (try simp at hz9)
              have HB9 := hide ((unhide HB2).trans (hb9.mono (unhide HB2).size))
              have HR9 := (unhide HROW2).call hb9
              have HC9 := ((unhide hTT).call hb9)
              clear hc9 hf9
              refine wpList_copy_splice rfl (.tmp 105) (.tmp 111) 56 56 rfl 5 Tryz.underlying56 (by kernel_rfl) (some ⟨g, j, none⟩) (some ⟨bA, 0, none⟩) (N - j) (N - j) 2 cA rfl rfl g j (Mem.bytesV L) 5 HR9 (Mem.bytesV [92, 34]) (by rw [Mem.bytesV_len]; exact (Nat.min_eq_left (by show 2 ≤ N - j; omega)).symm) (fun _ => ⟨rfl, _, rfl, fun q y hy => by rw [Addr.add_mid, Nat.zero_add]; exact HC9.A.cell q y hy⟩) (by rw [Mem.bytesV_len, Mem.bytesV_len, HL.out]; show j + 2 ≤ N; omega) (by intro y hy; simp [Mem.bytesV] at hy; rcases hy with rfl | rfl <;> rfl) w.heap.size w (unhide HB9) hgB ?_
              intro w10 hrow10 hb10
              have hrow11 := hrow10.out
              rw [splice_map] at hrow11
              have HR10 : Hid (RowB w10 g (splice L j [92, 34])) := hide hrow11
              have hlen2 : (Mem.bytesV [92, 34]).length = 2 := rfl
              have HB10 := hide hb10
              clear hrow10 hrow11 hb10 HR9 HC9 hb9 hz9 eN hrow2 hbel2
              go_wp2_with fail
              go_roundw
              case rel =>
                refine ⟨k + 1, splice L j [92, 34], by omega, by go_num, ?_, unhide HR10, by rw [length_splice _ _ _ (by rw [HL.out]; show j + 2 ≤ N; omega)]; exact HL.out, ?_, unhide HB10⟩
                · rw [HET.out, HS.out, HESC.out, List.length_append, HJ.out]; first | rfl | go_num
                · rw [HET.out, HS.out, HESC.out, List.length_append, HJ.out]
                  rw [splice_take L j _ (by rw [HL.out]; show j + 2 ≤ N; omega), HTK.out]
              case measure => simp [intOf]; omega
            · have hs34 : s[k] = 92 := UInt8.toNat_inj.1 h34
              rw [hs34] at hesc
              have HESC := Lib.hid hesc
              have HS := Lib.hid hs34
              have eN := hT.b
              have hTT := hide hT
              have hnn := nil_neq_no
              clear hs34 hesc hT
              go_upto_region 28 with fail
              clear hnn
              refine Reg.region_more_barT 10 (by kernel_rfl) (by kernel_rfl) (by intro c a d v w h; cases d <;> exact h) ?_
              simp only [List.take_succ_cons, List.take_zero, List.drop_succ_cons, List.drop_zero]
              repeat (go_big_quiet_step (fail))
              refine wpQuiet_nil ?_
              intro w9 hb9; obtain ⟨hc9, hf9, hz9⟩ := bcell hb9; (try simp at hz9)
              have HB9 := hide ((unhide HB2).trans (hb9.mono (unhide HB2).size))
              have HR9 := (unhide HROW2).call hb9
              have HC9 := ((unhide hTT).call hb9)
              clear hc9 hf9
              refine wpList_copy_splice rfl (.tmp 105) (.tmp 111) 56 56 rfl 5 Tryz.underlying56 (by kernel_rfl) (some ⟨g, j, none⟩) (some ⟨bC, 0, none⟩) (N - j) (N - j) 2 cC rfl rfl g j (Mem.bytesV L) 5 HR9 (Mem.bytesV [92, 92]) (by rw [Mem.bytesV_len]; exact (Nat.min_eq_left (by show 2 ≤ N - j; omega)).symm) (fun _ => ⟨rfl, _, rfl, fun q y hy => by rw [Addr.add_mid, Nat.zero_add]; exact HC9.C.cell q y hy⟩) (by rw [Mem.bytesV_len, Mem.bytesV_len, HL.out]; show j + 2 ≤ N; omega) (by intro y hy; simp [Mem.bytesV] at hy; rcases hy with rfl | rfl <;> rfl) w.heap.size w (unhide HB9) hgB ?_
              intro w10 hrow10 hb10
              have hrow11 := hrow10.out
              rw [splice_map] at hrow11
              have HR10 : Hid (RowB w10 g (splice L j [92, 92])) := hide hrow11
              have hlen2 : (Mem.bytesV [92, 92]).length = 2 := rfl
              have HB10 := hide hb10
              clear hrow10 hrow11 hb10 HR9 HC9 hb9 hz9 eN hrow2 hbel2
              go_wp2_with fail
              go_roundw
              case rel =>
                refine ⟨k + 1, splice L j [92, 92], by omega, by go_num, ?_, unhide HR10, by rw [length_splice _ _ _ (by rw [HL.out]; show j + 2 ≤ N; omega)]; exact HL.out, ?_, unhide HB10⟩
                · rw [HET.out, HS.out, HESC.out, List.length_append, HJ.out]; first | rfl | go_num
                · rw [HET.out, HS.out, HESC.out, List.length_append, HJ.out]
                  rw [splice_take L j _ (by rw [HL.out]; show j + 2 ≤ N; omega), HTK.out]
              case measure => simp [intOf]; omega
        · have hT2 : s.data.toList.take k = s.data.toList := List.take_of_length_le (by simpa using hge)
          rw [hT2] at htk hjl
          have hLr : L = r.data.toList := by
            rw [HRL.out, ← htk, List.take_of_length_le]
            rw [hjl, HNX.out]; omega
          have hLN : L.length = N := hL
          have HLR := Lib.hid hLr
          have hrow2 := hrow
          clear hT hbel hT2 htk hjl hLr hrow hL
          have HAS := hide hrow2.has
          clear hrow2
          have hres : (⟨L.toArray⟩ : ByteArray) = r := by rw [HLR.out]
          have HRES := Lib.hid hres
          clear hres
          go_wp2_with (refine Mem.wpList_text rfl 56 9 5 _ rfl g N N L rfl Tryz.underlying56 Tryz.underlying9 Tryz.underlying5 hLN (unhide HAS) ?_)
          go_ret
          exact ⟨by first | rfl | (rw [HRES.out] <;> rfl), unhide HB2⟩
end Go.Proofs.YtkaaeajidejchaaGreatDoor.Sp

/- strings.Replacer.Replace at a fresh replacer of these two bytes; token.Quote. -/
namespace Go.Proofs.YtkaaeajidejchaaGreatDoor.Sp
open Go.RowKit Sl

theorem rdSet {w : World} {v : Value} {n sz : Nat} {xs : List Value} (h : Rd w v n sz xs) {a : Addr} {y : Value} (hc : w.cell? a = some y) (hne : ∀ u ∈ xs, u ≠ y) (u' : Value) : Rd (w.setCell a u') v n sz xs := by
  obtain ⟨ao, cap, e, hcp, hz, hl, hcc⟩ := h
  refine ⟨ao, cap, e, hcp, hz, hl, fun hx => ?_⟩
  obtain ⟨b, off, e2, hlt, hcc⟩ := hcc hx
  refine ⟨b, off, e2, by simpa [World.setCell] using hlt, fun i u hu => ?_⟩
  have h1 := hcc i u hu
  rw [World.cell?_setCell_other _ _ _ _ (by rintro rfl; rw [hc] at h1; exact hne u (List.mem_of_getElem? hu) (Option.some.inj h1).symm)]
  exact h1

theorem RepTab.mono {B C : Nat} {w : World} {t : Nat} (h : RepTab B w t) (hC : C ≤ B) : RepTab C w t := by
  obtain ⟨h0, A, D, v, h1, ⟨b2, c2, rfl, z2, h2⟩, ⟨b3, c3, rfl, z3, h3⟩, h4⟩ := h
  exact ⟨by omega, _, _, v, h1, ⟨b2, c2, rfl, by omega, h2⟩, ⟨b3, c3, rfl, by omega, h3⟩, World.ownsRow.mono h4 hC⟩

theorem buildOnce_any (b : Nat) (v x3 : Value) (w : World) (h4 : w.cell? ⟨b, 4, none⟩ = some v) (hv : Rd w v 4 1 (strV repA)) (h3 : w.cell? ⟨b, 3, none⟩ = some x3) (f3 : w.frozen? ⟨b, 3, none⟩ = false) (f4 : w.frozen? ⟨b, 4, none⟩ = false) :
    Calls Tryz.prog 61 #[.pointer (some ⟨b, 0, none⟩)] w fun e w' => e = .returned (.tuple #[]) ∧ ∃ t w1, RepTab w.heap.size w1 t ∧ Below w.heap.size w w1 ∧
      w' = (w1.setCell ⟨b, 3, none⟩ (.iface 147 (.pointer (some ⟨t, 0, none⟩)))).setCell ⟨b, 4, none⟩ (.slice none 0 0) := by
  have hbw := World.block_lt_of_cell? w _ h4
  have HBD := hide (build_any b v w h4 hv)
  have H3 := hide h3
  have H4 := hide h4
  have F3 := hide f3
  have F4 := hide f4
  clear hv h3 h4 f3 f4
  go_enter Tryz.func61, Tryz.ntmps61
  go_wp2_with (go_at_call 83; refine (unhide HBD).mono ?_; rintro e w1 ⟨t, rfl, hrt, hb⟩; have c3 := (hb.cell (p := ⟨b, 3, none⟩) hbw).trans (unhide H3); have c4 := (hb.cell (p := ⟨b, 4, none⟩) hbw).trans (unhide H4); have g3 := (hb.frozen (p := ⟨b, 3, none⟩) hbw).trans (unhide F3); have g4 := (hb.frozen (p := ⟨b, 4, none⟩) hbw).trans (unhide F4); have hbw1 := Nat.lt_of_lt_of_le hbw hb.size; have HR := hide hrt; have HB := hide hb; clear hrt hb)
  go_end0
  exact ⟨rfl, t, w1, unhide HR, unhide HB, rfl⟩

theorem esc_size (s : ByteArray) : (esc s.data.toList).length ≤ 2 * s.size := by
  have h1 := esc_len s.data.toList
  have h2 := extra_le s.data.toList
  have h3 : s.data.toList.length = s.size := by simp
  omega

set_option maxRecDepth 100000 in
theorem replace_any (B b : Nat) (v : Value) (hB : B ≤ b) (s : ByteArray) (hs : s.size ≤ 1000000) (w : World) (hn : RepNew w b v) (hBw : B ≤ w.heap.size) :
    Calls Tryz.prog 47 #[.pointer (some ⟨b, 0, none⟩), .string s] w fun e w' => e = .returned (.string ⟨(esc s.data.toList).toArray⟩) ∧ Below B w w' := by
  have hbw := hn.H.lt
  obtain ⟨hH, hR⟩ := hn
  have H1 := hH.put 1 (.int .i32 1)
  simp only [List.set_cons_succ, List.set_cons_zero] at H1
  have R1 : Rd (w.setCell ⟨b, 1, none⟩ (.int .i32 1)) v 4 1 (strV repA) := rdSet hR (hH.cell 1 _ rfl) (by intro u hu; simp [repA, strV] at hu; rcases hu with rfl | rfl | rfl | rfl <;> (intro e; cases e)) _
  have hdo := do_first b 0 61 #[.pointer (some ⟨b, 0, none⟩)] (fun _ _ => by rfl) w
    (fun w2 => ∃ t, RepTab (b + 1) w2 t ∧ Reg.Has w2 b [.int .u32 0, .int .i32 1, .int .u32 0, .iface 147 (.pointer (some ⟨t, 0, none⟩)), .slice none 0 0] ∧ Below B w w2)
    (hH.cell 0 _ rfl) (hH.cell 1 _ rfl) (hH.free 0 (by simp)) (hH.free 1 (by simp)) (by
      refine (buildOnce_any b v .nilIface _ (H1.cell 4 _ rfl) R1 (H1.cell 3 _ rfl) (H1.free 3 (by simp)) (H1.free 4 (by simp))).mono ?_
      rintro e w' ⟨rfl, t, w1, hrt, hb, rfl⟩
      have hbW : b < (w.setCell ⟨b, 1, none⟩ (.int .i32 1)).heap.size := H1.lt
      have h2 := ((H1.call hb).put 3 (.iface 147 (.pointer (some ⟨t, 0, none⟩)))).put 4 (.slice none 0 0)
      simp only [List.set_cons_succ, List.set_cons_zero] at h2
      refine ⟨rfl, h2.cell 0 _ rfl, h2.cell 1 _ rfl, h2.free 0 (by simp), h2.free 1 (by simp), t, ?_, h2, ?_⟩
      · exact ((hrt.mono (by omega)).set b 3 (Nat.lt_succ_self b) _).set b 4 (Nat.lt_succ_self b) _
      · exact ((((Below.refl B w).setCell (p := ⟨b, 1, none⟩) hB _).trans (hb.mono (by simpa [World.setCell] using hBw))).setCell (p := ⟨b, 3, none⟩) hB _).setCell (p := ⟨b, 4, none⟩) hB _)
  have HDO := hide hdo
  have hmf : ∀ (fn : Fn) (first cap : Array Value) (w : World), (Instr.makeFunc fn first cap).run Tryz.prog w = .ok (.func fn first cap) w := fun _ _ _ _ => rfl
  clear hdo H1 R1 hR
  go_enter Tryz.func47, Tryz.ntmps47
  go_wp2_with (first
    | (go_at_call 60; refine (unhide HDO).mono ?_; rintro e w1 ⟨rfl, w2, ⟨t, hrt, h2, hb2⟩, rfl⟩; have R3 := hide (((hrt.drew).set b 0 (Nat.lt_succ_self b) (.int .u32 1)).set b 1 (Nat.lt_succ_self b) (.int .i32 0)); have H3 := ((h2.drew).put 0 (.int .u32 1)).put 1 (.int .i32 0); have B3 := hide ((hb2.drew.setCell (p := ⟨b, 0, none⟩) hB (.int .u32 1)).setCell (p := ⟨b, 1, none⟩) hB (.int .i32 0)); clear hrt h2 hb2; generalize (w2.drew.setCell ⟨b, 0, none⟩ (.int .u32 1)).setCell ⟨b, 1, none⟩ (.int .i32 0) = w3 at R3 H3 B3 ⊢; have c3 := H3.cell 3 _ rfl; have z3 := H3.lt; clear H3)
    | (go_at_call 183; refine (bsr_any (b + 1) t s hs _ (unhide R3)).mono ?_; rintro e w4 ⟨rfl, hb4⟩; have B4 := hide hb4; clear hb4))
  go_ret
  exact ⟨rfl, (unhide B3).trans ((unhide B4).mono (Nat.le_trans hBw (unhide B3).size))⟩

/-- what Quote makes of a text -/
def quoS (s : ByteArray) : ByteArray := (⟨#[34]⟩ ++ ⟨(esc s.data.toList).toArray⟩) ++ ⟨#[34]⟩

set_option maxRecDepth 100000 in
theorem quote_ok (s : ByteArray) (hs : s.size ≤ 1000000) (hok : allS chr s.data.toList = true) (w : World) :
    Calls Tryz.prog 30 #[.string s] w fun e w' => e = .returned (.tuple #[.string (quoS s), .int .i64 0]) ∧ Below w.heap.size w w' := by
  have hall := fun w => all_any s (by omega) 2 chr kind_and2 rfl w
  rw [hok] at hall
  have HALL := hide hall
  have hq : quoS s = (⟨#[34]⟩ ++ ⟨(esc s.data.toList).toArray⟩) ++ ⟨#[34]⟩ := rfl
  have hez := esc_size s
  obtain ⟨r, hr⟩ : ∃ r : ByteArray, (⟨(esc s.data.toList).toArray⟩ : ByteArray) = r := ⟨_, rfl⟩
  have hrz : r.size ≤ 2 * s.size := by rw [← hr, size_list (l := esc s.data.toList) rfl]; exact hez
  have hrep := fun B b v hB w hn hBw => replace_any B b v hB s hs w hn hBw
  rw [hr] at hrep hq
  rw [hq]
  have HREP := hide hrep
  clear hall hok hrep hr hq hez
  go_enter Tryz.func30, Tryz.ntmps30
  go_wp2_with (first
    | (go_at_call 45; refine (unhide HALL _).mono ?_; rintro e w1 ⟨rfl, hb1⟩; have HB := hide hb1; clear hb1)
    | (go_at_call 46; refine (newRep_any _ _ (rd_litS w1 repA 4 rfl)).mono ?_; rintro e w2 ⟨b, v, rfl, hbz, hnew, hb2⟩; have HN := hide hnew; have hb0 : w.heap.size ≤ b := (by have h9 := (unhide HB).size; rw [World.size_alloc] at hbz; omega); have HB := hide (((unhide HB).alloc (unhide HB).size _).trans (hb2.mono (by have h9 := (unhide HB).size; rw [World.size_alloc]; omega))); clear hb2 hbz hnew)
    | (go_at_call 47; refine (unhide HREP w.heap.size b v hb0 _ (unhide HN) (unhide HB).size).mono ?_; rintro e w3 ⟨rfl, hb3⟩; have HB := hide ((unhide HB).trans hb3); clear hb3))
  go_ret2
  exact ⟨rfl, unhide HB⟩

theorem quote_no (s : ByteArray) (hs : s.size ≤ 1000000) (hok : allS chr s.data.toList = false) (w : World) :
    Calls Tryz.prog 30 #[.string s] w fun e w' => e = .returned (.tuple #[.string ⟨#[]⟩, .int .i64 4]) ∧ Below w.heap.size w w' := by
  have hall := fun w => all_any s (by omega) 2 chr kind_and2 rfl w
  rw [hok] at hall
  have HALL := hide hall
  clear hall hok
  go_enter Tryz.func30, Tryz.ntmps30
  go_wp2_with (go_at_call 45; refine (unhide HALL _).mono ?_; rintro e w1 ⟨rfl, hb1⟩; have HB := hide hb1; clear hb1)
  go_ret2
  exact ⟨rfl, unhide HB⟩
theorem quote_any (s : ByteArray) (hs : s.size ≤ 1000000) (w : World) :
    Calls Tryz.prog 30 #[.string s] w fun e w' => ∃ q, e = .returned (.tuple #[.string q, .int .i64 (if allS chr s.data.toList = true then 0 else 4)]) ∧ Below w.heap.size w w' := by
  cases h : allS chr s.data.toList
  · exact (quote_no s hs h w).mono fun e w' ⟨he, hb⟩ => ⟨_, he, hb⟩
  · exact (quote_ok s hs h w).mono fun e w' ⟨he, hb⟩ => ⟨_, he, hb⟩
end Go.Proofs.YtkaaeajidejchaaGreatDoor.Sp

/- The size of a size line: chunk.Size. -/
namespace Go.Proofs.YtkaaeajidejchaaGreatDoor.Sp
open Go.RowKit Sl

def sizeE (l : List UInt8) (e : Ending) : Prop := e = .returned (.tuple #[.int .i64 (sizeF l).1, .int .i64 (sizeF l).2])
theorem hexP_at (s : ByteArray) (k : Nat) (h : k < s.size) : hexP (s.data.toList.drop k) = if hexB s[k] = true then hexP (s.data.toList.drop (k + 1)) + 1 else 0 := by
  rw [drop_cons s k h, hexP]
theorem sizeF_bad1 {l : List UInt8} (h : hexP l < 1 ∨ 16 < hexP l) : sizeF l = (0, 400) := by
  unfold sizeF sizeK
  rw [if_pos (by rw [decide_eq_true h]; rfl)]
theorem sizeF_bad2 {l : List UInt8} (hne : l.drop (hexP l) ≠ []) (h : (l.drop (hexP l)).head? ≠ some 59 ∨ allS chr (l.drop (hexP l)) = false) : sizeF l = (0, 400) := by
  unfold sizeF sizeK
  have h1 : (l.drop (hexP l)).isEmpty = false := by rw [List.isEmpty_eq_false_iff]; exact hne
  have h2 : ((l.drop (hexP l)).head? == some 59 && allS chr (l.drop (hexP l))) = false := by
    rcases h with h | h
    · rw [show ((l.drop (hexP l)).head? == some 59) = false by simpa using h]; rfl
    · rw [h, Bool.and_false]
  rw [if_pos (by rw [h1, h2]; simp)]
theorem sizeF_good {l : List UInt8} (h1 : ¬ (hexP l < 1 ∨ 16 < hexP l)) (h3 : l.drop (hexP l) = [] ∨ ((l.drop (hexP l)).head? = some 59 ∧ allS chr (l.drop (hexP l)) = true)) :
    sizeF l = if 9007199254740991 < hexN (l.take (hexP l)) then (0, 413) else (hexN (l.take (hexP l)), 0) := by
  have h : sizeK l = false := by
    unfold sizeK
    rw [decide_eq_false h1, Bool.false_or]
    rcases h3 with h | ⟨h, h'⟩
    · rw [h]; rfl
    · rw [h, h']; simp
  unfold sizeF
  rw [h, if_neg (by simp)]

set_option maxRecDepth 100000 in
set_option maxHeartbeats 4000000 in
theorem size_any (s : ByteArray) (hs : s.size ≤ 1000000) (w : World) :
    Calls Tryz.prog 18 #[.string s] w fun e w' => sizeE s.data.toList e ∧ Below w.heap.size w w' := by
  go_enter Tryz.func18, Tryz.ntmps18
  go_wp2_with fail
  go_loop [4] (fun n => ∃ k : Nat, k ≤ s.size ∧ n = .int .i64 k ∧ hexP s.data.toList = k + hexP (s.data.toList.drop k)) (fun n => s.size - (intOf n).toNat)
  case atStart => exact ⟨0, Nat.zero_le _, rfl, by simp⟩
  case round =>
    obtain ⟨k, hk, rfl, hp⟩ := hrel
    rcases Nat.lt_or_ge k s.size with hlt | hge
    · have hx := hexP_at s k hlt
      have HC := hide (hex_any s[k])
      cases hb : hexB s[k]
      · rw [hb, if_neg (by simp)] at hx
        rw [hb] at HC
        have HP := Lib.hid (show hexP s.data.toList = k by omega)
        have hr : (s.extract k s.size).data.toList = s.data.toList.drop k := Lib.extract_to_end s k
        have hrs : (s.extract k s.size).size = s.size - k := by rw [ByteArray.size_extract]; omega
        clear hp hb hx
        have QE := fun w' => quote_any (s.extract k s.size) (by rw [hrs]; omega) w'
        obtain ⟨ok, hok⟩ : ∃ ok, allS chr (s.extract k s.size).data.toList = ok := ⟨_, rfl⟩
        rw [hok] at QE
        obtain ⟨n4, hn4⟩ : ∃ n4 : Int, (if ok = true then 0 else 4) = n4 := ⟨_, rfl⟩
        rw [hn4] at QE
        have QE := hide QE
        have HN4 := Lib.hid hn4
        have HOK := Lib.hid hok
        clear hn4 hok
        go_upto_region 6 with (first
          | (go_at_call 29; refine (unhide HC _).mono ?_; rintro e w1 ⟨rfl, rfl⟩)
          | (go_at_call 30; refine (unhide QE _).mono ?_; rintro e w2 ⟨q, rfl, hb2⟩))
        have HB := hide hb2
        clear hb2 QE
        generalize hR : s.extract k s.size = r at *
        have h0 : 0 < r.size := by omega
        have hne : r.toList.isEmpty = false := by
          rcases empty_case r with ⟨_, h⟩ | ⟨h, _⟩
          · have h2 := congrArg List.length h
            rw [Array.length_toList] at h2
            have h3 : r.size = 0 := h2
            omega
          · exact h
        have hd : s.data.toList.drop (hexP s.data.toList) = r.data.toList := by rw [HP.out, hr]
        have hnn : s.data.toList.drop (hexP s.data.toList) ≠ [] := by
          rw [hd]; intro e
          have h2 := congrArg List.length e
          rw [Array.length_toList] at h2
          have h3 : r.size = 0 := h2
          omega
        have hhd : (s.data.toList.drop (hexP s.data.toList)).head? = some r[0] := by
          have := drop_cons r 0 h0
          rw [List.drop_zero] at this
          rw [hd, this]; rfl
        rw [hd] at hnn hhd
        have HD := Lib.hid hd
        have HNN := Lib.hid hnn
        have HHD := Lib.hid hhd
        have HR := Lib.hid hR
        clear hd hnn hhd hr hrs HC hR
        have hpre : (s.extract 0 k).data.toList = s.data.toList.take k := by rw [Lib.extract_data]; simp
        have hprs : (s.extract 0 k).size = k := by rw [ByteArray.size_extract]; omega
        have HPA := hide (show (s.extract 0 k).data.toList.all hexB = true by rw [hpre]; have := hexP_all s.data.toList; rw [HP.out] at this; exact this)
        have HPRE := Lib.hid hpre
        have HPRS := Lib.hid hprs
        clear hpre hprs
        by_cases k1 : k < 1
        · have k1i : (k : Int) < 1 := by omega
          have HQ := Lib.hid (sizeF_bad1 (l := s.data.toList) (by rw [HP.out]; exact .inl k1))
          clear k1
          go_wp2_with fail
          go_ret2
          exact ⟨by unfold sizeE; rw [HQ.out]; rfl, unhide HB⟩
        have k1i : ¬ (k : Int) < 1 := by omega
        by_cases k2 : 16 < k
        · have k2i : (16 : Int) < k := by omega
          have HQ := Lib.hid (sizeF_bad1 (l := s.data.toList) (by rw [HP.out]; exact .inr k2))
          clear k1 k2
          go_wp2_with fail
          go_ret2
          exact ⟨by unfold sizeE; rw [HQ.out]; rfl, unhide HB⟩
        have k2i : ¬ (16 : Int) < k := by omega
        have HK := Lib.hid (show ¬ (hexP s.data.toList < 1 ∨ 16 < hexP s.data.toList) by rw [HP.out]; omega)
        clear k1 k2
        generalize hc0 : r[0] = c0 at *
        by_cases h59 : c0 = 59
        · have c1 : ((c0.toNat : Int) == 59) = true := by rw [h59]; rfl
          have c2 : ((c0.toNat : Int) != 59) = false := by rw [h59]; rfl
          have H59 := Lib.hid h59
          clear h59
          cases ok
          · obtain rfl : 4 = n4 := HN4.out
            have HQ := Lib.hid (sizeF_bad2 (l := s.data.toList) (by rw [HD.out]; exact HNN.out) (.inr (by rw [HD.out]; exact HOK.out)))
            go_wp2_with fail
            go_ret2
            exact ⟨by unfold sizeE; rw [HQ.out]; rfl, unhide HB⟩
          · obtain rfl : 0 = n4 := HN4.out
            have HG := Lib.hid (sizeF_good (l := s.data.toList) HK.out (.inr ⟨by rw [HD.out, HHD.out, H59.out], by rw [HD.out]; exact HOK.out⟩))
            obtain ⟨v, hv⟩ : ∃ v, hexN (s.extract 0 k).data.toList = v := ⟨_, rfl⟩
            have PU := fun w' => puint_any (s.extract 0 k) (by rw [HPRS.out]; omega) (by rw [HPRS.out]; omega) (unhide HPA) w'
            rw [hv] at PU
            have PU := hide PU
            have HV := Lib.hid (show hexN (s.data.toList.take (hexP s.data.toList)) = v by rw [HP.out, ← HPRE.out, hv])
            clear hv
            go_upto_region 9 with (go_at_call 31; refine (unhide PU _).mono ?_; rintro e w3 ⟨rfl, hb3⟩)
            have HB3 := hide ((unhide HB).trans (hb3.mono (unhide HB).size))
            clear hb3
            by_cases g : 9007199254740991 < v
            · have gi : (9007199254740991 : Int) < v := by omega
              have HQ := Lib.hid (show sizeF s.data.toList = (0, 413) by rw [HG.out, HV.out, if_pos g])
              clear g
              go_wp2_with fail
              go_ret2
              exact ⟨by unfold sizeE; rw [HQ.out]; rfl, unhide HB3⟩
            · have gi : ¬ (9007199254740991 : Int) < v := by omega
              have wi : IntKind.i64.wrap (v : Int) = v := by rw [IntKind.wrap_i64]; omega
              have HQ := Lib.hid (show sizeF s.data.toList = (v, 0) by rw [HG.out, HV.out, if_neg g])
              clear g
              go_wp2_with fail
              go_ret2
              exact ⟨by unfold sizeE; rw [HQ.out]; rfl, unhide HB3⟩
        · have c1 : ((c0.toNat : Int) == 59) = false := by
            rw [beq_eq_false_iff_ne]; intro e; exact h59 (u8_eq (n := 59) e)
          have c2 : ((c0.toNat : Int) != 59) = true := by rw [bne, c1]; rfl
          have HQ := Lib.hid (sizeF_bad2 (l := s.data.toList) (by rw [HD.out]; exact HNN.out) (.inl (by rw [HD.out, HHD.out]; simpa using h59)))
          clear h59
          go_wp2_with fail
          go_ret2
          exact ⟨by unfold sizeE; rw [HQ.out]; rfl, unhide HB⟩
      · rw [hb, if_pos rfl] at hx
        rw [hb] at HC
        have HP := Lib.hid (show hexP s.data.toList = k + 1 + hexP (s.data.toList.drop (k + 1)) by omega)
        clear hp hb hx
        go_wp2_with (first
          | (go_at_call 29; refine (unhide HC _).mono ?_; rintro e w1 ⟨rfl, rfl⟩))
        refine ⟨⟨k + 1, by omega, by go_num, HP.out⟩, by simp [intOf]; omega⟩
    · have hke : k = s.size := by omega
      have hz : s.data.toList.drop k = [] := List.drop_of_length_le (by simp; omega)
      rw [hz] at hp
      have HP := Lib.hid (show hexP s.data.toList = k by rw [hp]; rfl)
      have HZ := Lib.hid (show s.data.toList.drop (hexP s.data.toList) = [] by rw [HP.out]; exact hz)
      obtain ⟨r, hR⟩ : ∃ r, s.extract k s.size = r := ⟨_, rfl⟩
      have hrs : r.size = 0 := by rw [← hR, ByteArray.size_extract]; omega
      have QE := fun w' => quote_any r (by rw [hrs]; omega) w'
      obtain ⟨n4, hn4⟩ : ∃ n4 : Int, (if allS chr r.data.toList = true then 0 else 4) = n4 := ⟨_, rfl⟩
      rw [hn4] at QE
      have QE := hide QE
      have hji : ¬ (k : Int) < s.size := by omega
      have hji2 : (s.size : Int) ≤ s.size := by omega
      clear hn4 hp hz hke
      go_upto_region 6 with (first
        | (go_at_call 30; refine (unhide QE _).mono ?_; rintro e w2 ⟨q, rfl, hb2⟩))
      have HB := hide hb2
      clear hb2 QE
      have hne : r.toList.isEmpty = true := by
        rcases empty_case r with ⟨h, _⟩ | ⟨_, h⟩
        · rw [h]; rfl
        · exfalso; apply h; exact List.eq_nil_of_length_eq_zero (by rw [Array.length_toList]; exact hrs)
      have hpre : (s.extract 0 k).data.toList = s.data.toList.take k := by rw [Lib.extract_data]; simp
      have hprs : (s.extract 0 k).size = k := by rw [ByteArray.size_extract]; omega
      have HPA := hide (show (s.extract 0 k).data.toList.all hexB = true by rw [hpre]; have := hexP_all s.data.toList; rw [HP.out] at this; exact this)
      have HPRE := Lib.hid hpre
      have HPRS := Lib.hid hprs
      clear hpre hprs hrs hji hji2
      by_cases k1 : k < 1
      · have k1i : (k : Int) < 1 := by omega
        have HQ := Lib.hid (sizeF_bad1 (l := s.data.toList) (by rw [HP.out]; exact .inl k1))
        clear k1
        go_wp2_with fail
        go_ret2
        exact ⟨by unfold sizeE; rw [HQ.out]; rfl, unhide HB⟩
      have k1i : ¬ (k : Int) < 1 := by omega
      by_cases k2 : 16 < k
      · have k2i : (16 : Int) < k := by omega
        have HQ := Lib.hid (sizeF_bad1 (l := s.data.toList) (by rw [HP.out]; exact .inr k2))
        clear k1 k2
        go_wp2_with fail
        go_ret2
        exact ⟨by unfold sizeE; rw [HQ.out]; rfl, unhide HB⟩
      have k2i : ¬ (16 : Int) < k := by omega
      have HG := Lib.hid (sizeF_good (l := s.data.toList) (by rw [HP.out]; omega) (.inl HZ.out))
      clear k1 k2
      obtain ⟨v, hv⟩ : ∃ v, hexN (s.extract 0 k).data.toList = v := ⟨_, rfl⟩
      have PU := fun w' => puint_any (s.extract 0 k) (by rw [HPRS.out]; omega) (by rw [HPRS.out]; omega) (unhide HPA) w'
      rw [hv] at PU
      have PU := hide PU
      have HV := Lib.hid (show hexN (s.data.toList.take (hexP s.data.toList)) = v by rw [HP.out, ← HPRE.out, hv])
      clear hv
      go_upto_region 9 with (go_at_call 31; refine (unhide PU _).mono ?_; rintro e w3 ⟨rfl, hb3⟩)
      have HB3 := hide ((unhide HB).trans (hb3.mono (unhide HB).size))
      clear hb3
      by_cases g : 9007199254740991 < v
      · have gi : (9007199254740991 : Int) < v := by omega
        have HQ := Lib.hid (show sizeF s.data.toList = (0, 413) by rw [HG.out, HV.out, if_pos g])
        clear g
        go_wp2_with fail
        go_ret2
        exact ⟨by unfold sizeE; rw [HQ.out]; rfl, unhide HB3⟩
      · have gi : ¬ (9007199254740991 : Int) < v := by omega
        have wi : IntKind.i64.wrap (v : Int) = v := by rw [IntKind.wrap_i64]; omega
        have HQ := Lib.hid (show sizeF s.data.toList = (v, 0) by rw [HG.out, HV.out, if_neg g])
        clear g
        go_wp2_with fail
        go_ret2
        exact ⟨by unfold sizeE; rw [HQ.out]; rfl, unhide HB3⟩
end Go.Proofs.YtkaaeajidejchaaGreatDoor.Sp

/- Numbers by sixteen: strconv.FormatInt at base 16 (below 4096), the reference's digits. -/
namespace Go.Proofs.YtkaaeajidejchaaGreatDoor.Sp
open Go.RowKit

/-- a digit by sixteen -/
def hxC (d : Nat) : UInt8 := if d < 10 then UInt8.ofNat (48 + d) else UInt8.ofNat (87 + d)
/-- a number's digits by sixteen (numbers below 4096) -/
def hxL (n : Nat) : List UInt8 := if n < 16 then [hxC n] else if n < 256 then [hxC (n / 16), hxC (n % 16)] else [hxC (n / 256), hxC (n / 16 % 16), hxC (n % 16)]
theorem hxL_len (n : Nat) : (hxL n).length ≤ 3 := by
  unfold hxL
  split
  · simp
  · split <;> simp
def Bru (w : World) : Prop := w.cell? ⟨4, 15, none⟩ = some (.int .u8 4)
theorem lt_cell {w : World} {a : Addr} {v : Value} (h : w.cell? a = some v) : a.block < w.heap.size := by
  rcases Nat.lt_or_ge a.block w.heap.size with h' | h'
  · exact h'
  · unfold World.cell? at h
    rw [Array.getElem?_eq_none h'] at h; cases h
theorem Bru.below {w w' : World} (h : Bru w) (hb : Below w.heap.size w w') : Bru w' := (hb.cell (lt_cell h)).trans h

set_option maxRecDepth 100000 in
theorem pow2_16 (w : World) : Calls Tryz.prog 91 #[.int .i64 16] w fun e w' => e = .returned (.bool true) ∧ w = w' := by
  go_enter Tryz.func91, Tryz.ntmps91
  go_wp2_with fail
  go_ret
  exact ⟨rfl, rfl⟩
set_option maxRecDepth 100000 in
theorem tz_16 (w : World) (h : Bru w) : Calls Tryz.prog 92 #[.int .u64 16] w fun e w' => e = .returned (.int .i64 4) ∧ w = w' := by
  unfold Bru at h
  have e1 : bits BinOp.and IntKind.u64 16 (IntKind.u64.wrap (-16)) = 16 := by kernel_rfl
  have e2 : IntKind.u64.wrap 4573923408821661840 = 4573923408821661840 := by kernel_rfl
  go_enter Tryz.func92, Tryz.ntmps92
  go_wp2
  go_ret
  exact ⟨rfl, rfl⟩
theorem text1 (b off cap : Nat) (c : UInt8) (w : World) (h : w.cell? ⟨b, off, none⟩ = some (.int .u8 c.toNat)) : (convert 56 9 (.slice (some ⟨b, off, none⟩) 1 cap)).run Tryz.prog w = .ok (.string ⟨#[c]⟩) w := by
  refine Mem.run_text (l := [c]) 56 5 9 Tryz.underlying56 Tryz.underlying5 Tryz.underlying9 b off cap (fun i v hv => ?_)
  rcases i with _ | i
  · simp [Mem.bytesV] at hv; subst hv; exact h
  · simp [Mem.bytesV] at hv
theorem text2 (b off cap : Nat) (c d : UInt8) (w : World) (h : w.cell? ⟨b, off, none⟩ = some (.int .u8 c.toNat)) (h1 : w.cell? ⟨b, off + 1, none⟩ = some (.int .u8 d.toNat)) : (convert 56 9 (.slice (some ⟨b, off, none⟩) 2 cap)).run Tryz.prog w = .ok (.string ⟨#[c, d]⟩) w := by
  refine Mem.run_text (l := [c, d]) 56 5 9 Tryz.underlying56 Tryz.underlying5 Tryz.underlying9 b off cap (fun i v hv => ?_)
  rcases i with _ | _ | i
  · simp [Mem.bytesV] at hv; subst hv; exact h
  · simp [Mem.bytesV] at hv; subst hv; exact h1
  · simp [Mem.bytesV] at hv
theorem text3 (b off cap : Nat) (c d e : UInt8) (w : World) (h : w.cell? ⟨b, off, none⟩ = some (.int .u8 c.toNat)) (h1 : w.cell? ⟨b, off + 1, none⟩ = some (.int .u8 d.toNat)) (h2 : w.cell? ⟨b, off + 2, none⟩ = some (.int .u8 e.toNat)) : (convert 56 9 (.slice (some ⟨b, off, none⟩) 3 cap)).run Tryz.prog w = .ok (.string ⟨#[c, d, e]⟩) w := by
  refine Mem.run_text (l := [c, d, e]) 56 5 9 Tryz.underlying56 Tryz.underlying5 Tryz.underlying9 b off cap (fun i v hv => ?_)
  rcases i with _ | _ | _ | i
  · simp [Mem.bytesV] at hv; subst hv; exact h
  · simp [Mem.bytesV] at hv; subst hv; exact h1
  · simp [Mem.bytesV] at hv; subst hv; exact h2
  · simp [Mem.bytesV] at hv
def dig36 : ByteArray := ⟨#[48, 49, 50, 51, 52, 53, 54, 55, 56, 57, 97, 98, 99, 100, 101, 102, 103, 104, 105, 106, 107, 108, 109, 110, 111, 112, 113, 114, 115, 116, 117, 118, 119, 120, 121, 122]⟩
theorem dig36_at (k : Nat) (h : k < 16) (w : World) : (Instr.index 9 (.string dig36) (.int .u64 k)).run Tryz.prog w = .ok (.int .u8 (hxC k).toNat) w := by
  have h1 : (0 : Int) ≤ (k : Int) ∧ (k : Int) < 36 := by omega
  have h2 : ∀ k : Fin 16, (dig36.data[k.val]!).toNat = (hxC k.val).toNat := by decide
  have h3 := h2 ⟨k, h⟩
  have h4 : k < dig36.data.size := by show k < 36; omega
  simp only at h3
  have h5 : dig36[k]? = some (hxC k) := by
    have e : dig36.data[k]! = hxC k := UInt8.toNat_inj.1 h3
    rw [getElem!_pos dig36.data k h4] at e
    have h6 : k < dig36.size := h4
    rw [getElem?_pos dig36 k h6]
    exact congrArg some e
  have h7 : ((dig36.size : Nat) : Int) = 36 := rfl
  generalize dig36 = D at h5 h7 ⊢
  simp [Instr.index, run_underlying Tryz.underlying9, asIntOf, part, go_sem, h1, h5, h7]
theorem and15 (n : Nat) (h : n < 4096) : bits BinOp.and IntKind.u64 (n : Int) 15 = ((n % 16 : Nat) : Int) := by
  have := bits_and_u64_nat n 15 (by omega) (by omega)
  rw [show ((15 : Nat) : Int) = 15 from rfl] at this
  rw [this]
  congr 1
  exact Nat.and_two_pow_sub_one_eq_mod n 4

set_option maxRecDepth 100000 in
set_option maxHeartbeats 4000000 in
theorem fbits_any (n : Nat) (hn : n < 4096) (w : World) (hT : Bru w) :
    Calls Tryz.prog 75 #[.slice none 0 0, .int .u64 n, .int .i64 16, .bool false, .bool false] w fun e w' => e = .returned (.tuple #[.slice none 0 0, .string (⟨(hxL n).toArray⟩)]) ∧ Below w.heap.size w w' := by
  have HT := hide hT
  clear hT
  go_enter Tryz.func75, Tryz.ntmps75
  go_wp2_with (first
    | (go_at_call 91; refine (pow2_16 _).mono ?_; rintro e w2 ⟨rfl, rfl⟩)
    | (go_at_call 92; refine (tz_16 _ ((unhide HT).below ((Below.refl w.heap.size w).alloc (Nat.le_refl _) _))).mono ?_; rintro e w3 ⟨rfl, rfl⟩))
  have HH := hide (Reg.Has.new w (List.replicate 65 (Value.int IntKind.u8 0)) 131)
  go_loopw [1, 13] (fun u i wr => ∃ (k m : Nat) (xs : List Value), u = .int .u64 m ∧ i = .int .i64 ((65 - k : Nat) : Int) ∧ xs.length = 65 ∧ Reg.Has wr w.heap.size xs ∧ Below w.heap.size w wr ∧ ((k = 0 ∧ m = n) ∨ (k = 1 ∧ 16 ≤ n ∧ m = n / 16 ∧ xs[64]? = some (.int .u8 (hxC (n % 16)).toNat)) ∨ (k = 2 ∧ 256 ≤ n ∧ m = n / 256 ∧ xs[63]? = some (.int .u8 (hxC (n / 16 % 16)).toNat) ∧ xs[64]? = some (.int .u8 (hxC (n % 16)).toNat)))) (fun u i _ => (intOf i).toNat)
  case atStart => exact ⟨0, n, List.replicate 65 (Value.int IntKind.u8 0), rfl, rfl, by simp, unhide HH, (Below.refl w.heap.size w).alloc (Nat.le_refl _) _, .inl ⟨rfl, rfl⟩⟩
  case round =>
    obtain ⟨k, m, xs, rfl, rfl, hlen, hhas, hbel, hcase⟩ := hrel
    have hc := fun i (h : i < 65) => hhas.cell i xs[i] (by simp [hlen, h])
    have hf := fun i (h : i < 65) => hhas.free i (by omega)
    have HHa := hide hhas
    have HBe := hide hbel
    have hm4 : m < 4096 := by rcases hcase with ⟨-, e⟩ | ⟨-, -, e, -⟩ | ⟨-, -, e, -⟩ <;> omega
    have ha := and15 m hm4
    clear hhas hbel
    rcases Nat.lt_or_ge m 16 with hm | hm
    · have hx2 := fun w => dig36_at m hm w
      unfold dig36 at hx2
      clear ha
      obtain ⟨x, hx⟩ : ∃ x, hxC m = x := ⟨_, rfl⟩
      rw [hx] at hx2
      rcases hcase with ⟨rfl, e⟩ | ⟨rfl, hn1, e, g1⟩ | ⟨rfl, hn1, e, g1, g2⟩
      · have c64 := hc 64 (by omega)
        have f64 := hf 64 (by omega)
        have cv := fun w' => text1 w.heap.size 64 1 x w'
        have HE := Lib.hid (show hxL n = [x] by unfold hxL; rw [if_pos (by omega), ← hx, e])
        clear hf hc e hx
        go_wp2_with fail
        go_ret2
        exact ⟨by rw [HE.out]; rfl, (unhide HBe).setCell (Nat.le_refl _) _⟩
      · have c64 := (unhide HHa).cell 64 _ g1
        have c63 := hc 63 (by omega)
        have f63 := hf 63 (by omega)
        obtain ⟨y, hy⟩ : ∃ y, hxC (n % 16) = y := ⟨_, rfl⟩
        rw [hy] at c64
        have cv := fun w' => text2 w.heap.size 63 2 x y w'
        have HE := Lib.hid (show hxL n = [x, y] by unfold hxL; rw [if_neg (by omega), if_pos (by omega), ← hx, ← hy, e])
        clear hf hc g1 e hx hy
        go_wp2_with fail
        go_ret2
        exact ⟨by rw [HE.out]; rfl, (unhide HBe).setCell (Nat.le_refl _) _⟩
      · have c64 := (unhide HHa).cell 64 _ g2
        have c63 := (unhide HHa).cell 63 _ g1
        have c62 := hc 62 (by omega)
        have f62 := hf 62 (by omega)
        obtain ⟨y, hy⟩ : ∃ y, hxC (n / 16 % 16) = y := ⟨_, rfl⟩
        obtain ⟨z, hz⟩ : ∃ y, hxC (n % 16) = y := ⟨_, rfl⟩
        rw [hy] at c63
        rw [hz] at c64
        have cv := fun w' => text3 w.heap.size 62 3 x y z w'
        have HE := Lib.hid (show hxL n = [x, y, z] by unfold hxL; rw [if_neg (by omega), if_neg (by omega), ← hx, ← hy, ← hz, e])
        clear hf hc g1 g2 e hx hy hz
        go_wp2_with fail
        go_ret2
        exact ⟨by rw [HE.out]; rfl, (unhide HBe).setCell (Nat.le_refl _) _⟩
    · have hx1 := fun w => dig36_at (m % 16) (by omega) w
      unfold dig36 at hx1
      obtain ⟨x, hx⟩ : ∃ x, hxC (m % 16) = x := ⟨_, rfl⟩
      rw [hx] at hx1
      obtain ⟨q, hq⟩ : ∃ q, m % 16 = q := ⟨_, rfl⟩
      rw [hq] at hx1 ha hx
      have hq16 : q < 16 := by omega
      rcases hcase with ⟨rfl, e⟩ | ⟨rfl, hn1, e, g1⟩ | ⟨rfl, hn1, e, g1, g2⟩
      · have c64 := hc 64 (by omega)
        have f64 := hf 64 (by omega)
        have HE := Lib.hid (show m / 16 = n / 16 by rw [e])
        have HX := Lib.hid (show x = hxC (n % 16) by rw [← hx, ← hq, e])
        have hn16 : 16 ≤ n := by omega
        clear hf hc e hx hq
        go_wp2_with fail
        go_roundw
        case rel => exact ⟨1, m / 16, xs.set 64 (.int .u8 x.toNat), by go_num, by go_num, by simp [hlen], (unhide HHa).put 64 _, (unhide HBe).setCell (Nat.le_refl _) _, .inr (.inl ⟨rfl, hn16, HE.out, by rw [← HX.out]; simp [hlen]⟩)⟩
        case measure => simp [intOf]
      · have c63 := hc 63 (by omega)
        have f63 := hf 63 (by omega)
        have HE := Lib.hid (show m / 16 = n / 256 by omega)
        have HX := Lib.hid (show x = hxC (n / 16 % 16) by rw [← hx, ← hq, e])
        have hn256 : 256 ≤ n := by omega
        clear hf hc e hx hq
        go_wp2_with fail
        go_roundw
        case rel => exact ⟨2, m / 16, xs.set 63 (.int .u8 x.toNat), by go_num, by go_num, by simp [hlen], (unhide HHa).put 63 _, (unhide HBe).setCell (Nat.le_refl _) _, .inr (.inr ⟨rfl, hn256, HE.out, by rw [← HX.out]; simp [hlen], by rw [List.getElem?_set_ne (by omega)]; exact g1⟩)⟩
        case measure => simp [intOf]
      · omega
def hxB (n : Nat) : ByteArray := ⟨(hxL n).toArray⟩
theorem hxB_size (n : Nat) : (hxB n).size ≤ 3 := by
  have := hxL_len n
  show (hxL n).toArray.size ≤ 3
  simpa using this
theorem hxB_data (n : Nat) : (hxB n).data.toList = hxL n := rfl
set_option maxRecDepth 100000 in
set_option maxHeartbeats 2000000 in
theorem fmtI_any (n : Nat) (hn : n < 4096) (w : World) (hT : Bru w) :
    Calls Tryz.prog 53 #[.int .i64 n, .int .i64 16] w fun e w' => e = .returned (.string (hxB n)) ∧ Below w.heap.size w w' := by
  have c1 := hide (fbits_any n hn w hT)
  have hw : IntKind.u64.wrap (n : Int) = n := by
    rw [IntKind.wrap_u64]; omega
  clear hT
  go_enter Tryz.func53, Tryz.ntmps53
  go_wp2_with fail
  refine (unhide c1).mono ?_; rintro e w1 ⟨rfl, hb1⟩
  go_wp2_with fail
  go_ret
  exact ⟨rfl, hb1⟩
set_option maxRecDepth 100000 in
set_option maxHeartbeats 2000000 in
theorem fmt16_any (n : Nat) (hn : n < 4096) (w : World) (hT : Bru w) :
    Calls Tryz.prog 35 #[.int .i64 n, .int .i64 16] w fun e w' => e = .returned (.string (hxB n)) ∧ Below w.heap.size w w' := by
  have c1 := hide (fmtI_any n hn w hT)
  clear hT
  go_enter Tryz.func35, Tryz.ntmps35
  go_wp2_with fail
  refine (unhide c1).mono ?_; rintro e w1 ⟨rfl, hb1⟩
  go_wp2_with fail
  go_ret
  exact ⟨rfl, hb1⟩
def hex16 : ByteArray := ⟨#[48, 49, 50, 51, 52, 53, 54, 55, 56, 57, 97, 98, 99, 100, 101, 102]⟩
theorem hex16_at (k : Nat) (h : k < 16) : hex16.extract k (k + 1) = ⟨#[hxC k]⟩ := by
  have h1 : ∀ k : Fin 16, (hex16.extract k.val (k.val + 1)).data.toList = [hxC k.val] := by decide +kernel
  have := h1 ⟨k, h⟩
  exact ba_eq this
set_option maxRecDepth 100000 in
set_option maxHeartbeats 2000000 in
theorem rdigits_any (n : Nat) (hn : n < 4096) (w : World) :
    Calls Tryz.prog 38 #[.int .i64 n] w fun e w' => e = .returned (.string (hxB n)) ∧ w = w' := by
  go_enter Tryz.func38, Tryz.ntmps38
  go_wp2_with fail
  go_loop [0, 3] (fun u o => ∃ (k m : Nat) (x : ByteArray), u = .int .i64 m ∧ o = .string x ∧ x.size = k ∧ ((k = 0 ∧ m = n) ∨ (k = 1 ∧ 16 ≤ n ∧ m = n / 16 ∧ x.data.toList = [hxC (n % 16)]) ∨ (k = 2 ∧ 256 ≤ n ∧ m = n / 256 ∧ x.data.toList = [hxC (n / 16 % 16), hxC (n % 16)]))) (fun u _ => (intOf u).toNat)
  case atStart => exact ⟨0, n, ⟨#[]⟩, rfl, rfl, rfl, .inl ⟨rfl, rfl⟩⟩
  case round =>
    obtain ⟨k, m, x, rfl, rfl, hx, hcase⟩ := hrel
    have hx3 : x.size ≤ 3 := by rcases hcase with ⟨e, -⟩ | ⟨e, -⟩ | ⟨e, -⟩ <;> omega
    have HC := hide hcase
    clear hcase
    have HE := Lib.hid (hex16_at (m % 16) (by omega))
    obtain ⟨a, ha⟩ : ∃ a, m / 16 = a := ⟨_, rfl⟩
    obtain ⟨b, hb⟩ : ∃ b, m % 16 = b := ⟨_, rfl⟩
    have hd : Int.tdiv (m : Int) 16 = (a : Int) := by rw [Int.tdiv_eq_ediv_of_nonneg (by omega)]; omega
    have hr : Int.tmod (m : Int) 16 = (b : Int) := by rw [Int.tmod_eq_emod_of_nonneg (by omega)]; omega
    have hd2 : (m : Int) / 16 = (a : Int) := by omega
    have hr2 : (m : Int) % 16 = (b : Int) := by omega
    have hb16 : b < 16 := by omega
    rw [hb] at HE
    unfold hex16 at HE
    have HA := Lib.hid ha
    have HB := Lib.hid hb
    clear ha hb
    obtain ⟨c, hc⟩ : ∃ c, hxC b = c := ⟨_, rfl⟩
    rw [hc] at HE
    have HHC := Lib.hid hc
    clear hc
    have hm4 : m < 4096 := by rcases unhide HC with ⟨-, e⟩ | ⟨-, -, e, -⟩ | ⟨-, -, e, -⟩ <;> omega
    have ha4 : a < 256 := by have := HA.out; omega
    have hw : wrap64 (a : Int) = a := by unfold wrap64; omega
    rcases Nat.eq_zero_or_pos a with h0 | h0
    · subst h0
      go_wp2_with fail
      go_ret
      refine ⟨?_, rfl⟩
      rw [HE.out]
      refine congrArg (fun x => Ending.returned (.string x)) (ba_eq ?_)
      rw [app_data]
      have h1 := HA.out
      have h2 := HB.out
      have h3 := HHC.out
      unfold hxL
      rcases unhide HC with ⟨e0, e⟩ | ⟨e0, e1, e, e2⟩ | ⟨e0, e1, e, e2⟩
      · rw [if_pos (by omega)]
        have : x.data.toList = [] := List.eq_nil_of_length_eq_zero (by rw [← e0, ← hx]; simp)
        rw [this, ← h3, ← h2, ← e, Nat.mod_eq_of_lt (by omega)]; rfl
      · rw [if_neg (by omega), if_pos (by omega), e2, ← h3, ← h2, e, Nat.mod_eq_of_lt (by omega)]; rfl
      · rw [if_neg (by omega), if_neg (by omega), e2, ← h3, ← h2, e, Nat.mod_eq_of_lt (by omega)]; rfl
    · have h0b : decide ((a : Int) = 0) = false := decide_eq_false (by omega)
      go_wp2_with fail
      refine ⟨⟨k + 1, a, ⟨#[c]⟩ ++ x, by go_num, by rw [HE.out], by rw [ByteArray.size_append]; show 1 + x.size = k + 1; omega, ?_⟩, ?_⟩
      · have h1 := HA.out
        have h2 := HB.out
        have h3 := HHC.out
        rcases unhide HC with ⟨e0, e⟩ | ⟨e0, e1, e, e2⟩ | ⟨e0, e1, e, e2⟩
        · refine .inr (.inl ⟨by omega, by omega, by omega, ?_⟩)
          have : x.data.toList = [] := List.eq_nil_of_length_eq_zero (by rw [← e0, ← hx]; simp)
          rw [app_data, this, ← h3, ← h2, ← e]; rfl
        · refine .inr (.inr ⟨by omega, by omega, by omega, ?_⟩)
          rw [app_data, e2, ← h3, ← h2, e]; rfl
        · omega
      · simp [intOf, hw]; have := HA.out; omega
end Go.Proofs.YtkaaeajidejchaaGreatDoor.Sp
