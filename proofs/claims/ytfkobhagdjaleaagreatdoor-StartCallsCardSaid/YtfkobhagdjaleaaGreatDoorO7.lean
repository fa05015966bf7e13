/- strings.Replacer.Replace at a fresh replacer of these two bytes; token.Quote. -/
import Derived.Test.YtfkobhagdjaleaaGreatDoorO6
import Derived.Test.YtfkobhagdjaleaaGreatDoorB4
namespace Go.Proofs.YtfkobhagdjaleaaGreatDoor.Sp
open Go.RowKit Sl

theorem rdSet {w : World} {v : Value} {n sz : Nat} {xs : List Value} (h : Rd w v n sz xs) {a : Addr} {y : Value} (hc : w.cell? a = some y) (hne : ∀ u ∈ xs, u ≠ y) (u' : Value) : Rd (w.setCell a u') v n sz xs := by
  obtain ⟨ao, cap, e, hcp, hz, hl, hcc⟩ := h
  refine ⟨ao, cap, e, hcp, hz, hl, fun hx => ?_⟩
  obtain ⟨b, off, e2, hlt, hcc⟩ := hcc hx
  refine ⟨b, off, e2, by simpa [World.setCell] using hlt, fun i u hu => ?_⟩
  have h1 := hcc i u hu
  rw [World.cell?_setCell_other _ _ _ _ (by rintro rfl; rw [hc] at h1; exact hne u (List.mem_of_getElem? hu) (Option.some.inj h1).symm)]
  exact h1

theorem RepTab.mono {B C : Nat} {w : World} {t : Nat} (h : RepTab B w t) (hC : C ≤ B) : RepTab C w t := by
  obtain ⟨h0, A, D, v, h1, ⟨b2, c2, rfl, z2, h2⟩, ⟨b3, c3, rfl, z3, h3⟩, h4⟩ := h
  exact ⟨by omega, _, _, v, h1, ⟨b2, c2, rfl, by omega, h2⟩, ⟨b3, c3, rfl, by omega, h3⟩, World.ownsRow.mono h4 hC⟩

theorem buildOnce_any (b : Nat) (v x3 : Value) (w : World) (h4 : w.cell? ⟨b, 4, none⟩ = some v) (hv : Rd w v 4 1 (strV repA)) (h3 : w.cell? ⟨b, 3, none⟩ = some x3) (f3 : w.frozen? ⟨b, 3, none⟩ = false) (f4 : w.frozen? ⟨b, 4, none⟩ = false) :
    Calls Tryz.prog 98 #[.pointer (some ⟨b, 0, none⟩)] w fun e w' => e = .returned (.tuple #[]) ∧ ∃ t w1, RepTab w.heap.size w1 t ∧ Below w.heap.size w w1 ∧
      w' = (w1.setCell ⟨b, 3, none⟩ (.iface 152 (.pointer (some ⟨t, 0, none⟩)))).setCell ⟨b, 4, none⟩ (.slice none 0 0) := by
  have hbw := World.block_lt_of_cell? w _ h4
  have HBD := hide (build_any b v w h4 hv)
  have H3 := hide h3
  have H4 := hide h4
  have F3 := hide f3
  have F4 := hide f4
  clear hv h3 h4 f3 f4
  go_enter Tryz.func98, Tryz.ntmps98
  go_wp2_with (go_at_call 112; refine (unhide HBD).mono ?_; rintro e w1 ⟨t, rfl, hrt, hb⟩; have c3 := (hb.cell (p := ⟨b, 3, none⟩) hbw).trans (unhide H3); have c4 := (hb.cell (p := ⟨b, 4, none⟩) hbw).trans (unhide H4); have g3 := (hb.frozen (p := ⟨b, 3, none⟩) hbw).trans (unhide F3); have g4 := (hb.frozen (p := ⟨b, 4, none⟩) hbw).trans (unhide F4); have hbw1 := Nat.lt_of_lt_of_le hbw hb.size; have HR := hide hrt; have HB := hide hb; clear hrt hb)
  go_end0
  exact ⟨rfl, t, w1, unhide HR, unhide HB, rfl⟩

theorem esc_size (s : ByteArray) : (esc s.data.toList).length ≤ 2 * s.size := by
  have h1 := esc_len s.data.toList
  have h2 := extra_le s.data.toList
  have h3 : s.data.toList.length = s.size := by simp
  omega

set_option maxRecDepth 100000 in
theorem replace_any (B b : Nat) (v : Value) (hB : B ≤ b) (s : ByteArray) (hs : s.size ≤ 1000000) (w : World) (hn : RepNew w b v) (hBw : B ≤ w.heap.size) :
    Calls Tryz.prog 79 #[.pointer (some ⟨b, 0, none⟩), .string s] w fun e w' => e = .returned (.string ⟨(esc s.data.toList).toArray⟩) ∧ Below B w w' := by
  have hbw := hn.H.lt
  obtain ⟨hH, hR⟩ := hn
  have H1 := hH.put 1 (.int .i32 1)
  simp only [List.set_cons_succ, List.set_cons_zero] at H1
  have R1 : Rd (w.setCell ⟨b, 1, none⟩ (.int .i32 1)) v 4 1 (strV repA) := rdSet hR (hH.cell 1 _ rfl) (by intro u hu; simp [repA, strV] at hu; rcases hu with rfl | rfl | rfl | rfl <;> (intro e; cases e)) _
  have hdo := do_first b 0 98 #[.pointer (some ⟨b, 0, none⟩)] (fun _ _ => by rfl) w
    (fun w2 => ∃ t, RepTab (b + 1) w2 t ∧ Reg.Has w2 b [.int .u32 0, .int .i32 1, .int .u32 0, .iface 152 (.pointer (some ⟨t, 0, none⟩)), .slice none 0 0] ∧ Below B w w2)
    (hH.cell 0 _ rfl) (hH.cell 1 _ rfl) (hH.free 0 (by simp)) (hH.free 1 (by simp)) (by
      refine (buildOnce_any b v .nilIface _ (H1.cell 4 _ rfl) R1 (H1.cell 3 _ rfl) (H1.free 3 (by simp)) (H1.free 4 (by simp))).mono ?_
      rintro e w' ⟨rfl, t, w1, hrt, hb, rfl⟩
      have hbW : b < (w.setCell ⟨b, 1, none⟩ (.int .i32 1)).heap.size := H1.lt
      have h2 := ((H1.call hb).put 3 (.iface 152 (.pointer (some ⟨t, 0, none⟩)))).put 4 (.slice none 0 0)
      simp only [List.set_cons_succ, List.set_cons_zero] at h2
      refine ⟨rfl, h2.cell 0 _ rfl, h2.cell 1 _ rfl, h2.free 0 (by simp), h2.free 1 (by simp), t, ?_, h2, ?_⟩
      · exact ((hrt.mono (by omega)).set b 3 (Nat.lt_succ_self b) _).set b 4 (Nat.lt_succ_self b) _
      · exact ((((Below.refl B w).setCell (p := ⟨b, 1, none⟩) hB _).trans (hb.mono (by simpa [World.setCell] using hBw))).setCell (p := ⟨b, 3, none⟩) hB _).setCell (p := ⟨b, 4, none⟩) hB _)
  have HDO := hide hdo
  have hmf : ∀ (fn : Fn) (first cap : Array Value) (w : World), (Instr.makeFunc fn first cap).run Tryz.prog w = .ok (.func fn first cap) w := fun _ _ _ _ => rfl
  clear hdo H1 R1 hR
  go_enter Tryz.func79, Tryz.ntmps79
  go_wp2_with (first
    | (go_at_call 97; refine (unhide HDO).mono ?_; rintro e w1 ⟨rfl, w2, ⟨t, hrt, h2, hb2⟩, rfl⟩; have R3 := hide (((hrt.drew).set b 0 (Nat.lt_succ_self b) (.int .u32 1)).set b 1 (Nat.lt_succ_self b) (.int .i32 0)); have H3 := ((h2.drew).put 0 (.int .u32 1)).put 1 (.int .i32 0); have B3 := hide ((hb2.drew.setCell (p := ⟨b, 0, none⟩) hB (.int .u32 1)).setCell (p := ⟨b, 1, none⟩) hB (.int .i32 0)); clear hrt h2 hb2; generalize (w2.drew.setCell ⟨b, 0, none⟩ (.int .u32 1)).setCell ⟨b, 1, none⟩ (.int .i32 0) = w3 at R3 H3 B3 ⊢; have c3 := H3.cell 3 _ rfl; have z3 := H3.lt; clear H3)
    | (go_at_call 182; refine (bsr_any (b + 1) t s hs _ (unhide R3)).mono ?_; rintro e w4 ⟨rfl, hb4⟩; have B4 := hide hb4; clear hb4))
  go_ret
  exact ⟨rfl, (unhide B3).trans ((unhide B4).mono (Nat.le_trans hBw (unhide B3).size))⟩

/-- what Quote makes of a text -/
def quoS (s : ByteArray) : ByteArray := (⟨#[34]⟩ ++ ⟨(esc s.data.toList).toArray⟩) ++ ⟨#[34]⟩

set_option maxRecDepth 100000 in
theorem quote_ok (s : ByteArray) (hs : s.size ≤ 1000000) (hok : allS chr s.data.toList = true) (w : World) :
    Calls Tryz.prog 50 #[.string s] w fun e w' => e = .returned (.tuple #[.string (quoS s), .int .i64 0]) ∧ Below w.heap.size w w' := by
  have hall := fun w => all_any s (by omega) 2 chr kind_and2 rfl w
  rw [hok] at hall
  have HALL := hide hall
  have hq : quoS s = (⟨#[34]⟩ ++ ⟨(esc s.data.toList).toArray⟩) ++ ⟨#[34]⟩ := rfl
  have hez := esc_size s
  obtain ⟨r, hr⟩ : ∃ r : ByteArray, (⟨(esc s.data.toList).toArray⟩ : ByteArray) = r := ⟨_, rfl⟩
  have hrz : r.size ≤ 2 * s.size := by rw [← hr, size_list (l := esc s.data.toList) rfl]; exact hez
  have hrep := fun B b v hB w hn hBw => replace_any B b v hB s hs w hn hBw
  rw [hr] at hrep hq
  rw [hq]
  have HREP := hide hrep
  clear hall hok hrep hr hq hez
  go_enter Tryz.func50, Tryz.ntmps50
  go_wp2_with (first
    | (go_at_call 51; refine (unhide HALL _).mono ?_; rintro e w1 ⟨rfl, hb1⟩; have HB := hide hb1; clear hb1)
    | (go_at_call 78; refine (newRep_any _ _ (rd_litS w1 repA 4 rfl)).mono ?_; rintro e w2 ⟨b, v, rfl, hbz, hnew, hb2⟩; have HN := hide hnew; have hb0 : w.heap.size ≤ b := (by have h9 := (unhide HB).size; rw [World.size_alloc] at hbz; omega); have HB := hide (((unhide HB).alloc (unhide HB).size _).trans (hb2.mono (by have h9 := (unhide HB).size; rw [World.size_alloc]; omega))); clear hb2 hbz hnew)
    | (go_at_call 79; refine (unhide HREP w.heap.size b v hb0 _ (unhide HN) (unhide HB).size).mono ?_; rintro e w3 ⟨rfl, hb3⟩; have HB := hide ((unhide HB).trans hb3); clear hb3))
  go_ret2
  exact ⟨rfl, unhide HB⟩

theorem quote_no (s : ByteArray) (hs : s.size ≤ 1000000) (hok : allS chr s.data.toList = false) (w : World) :
    Calls Tryz.prog 50 #[.string s] w fun e w' => e = .returned (.tuple #[.string ⟨#[]⟩, .int .i64 4]) ∧ Below w.heap.size w w' := by
  have hall := fun w => all_any s (by omega) 2 chr kind_and2 rfl w
  rw [hok] at hall
  have HALL := hide hall
  clear hall hok
  go_enter Tryz.func50, Tryz.ntmps50
  go_wp2_with (go_at_call 51; refine (unhide HALL _).mono ?_; rintro e w1 ⟨rfl, hb1⟩; have HB := hide hb1; clear hb1)
  go_ret2
  exact ⟨rfl, unhide HB⟩
theorem quote_any (s : ByteArray) (hs : s.size ≤ 1000000) (w : World) :
    Calls Tryz.prog 50 #[.string s] w fun e w' => ∃ q, e = .returned (.tuple #[.string q, .int .i64 (if allS chr s.data.toList = true then 0 else 4)]) ∧ Below w.heap.size w w' := by
  cases h : allS chr s.data.toList
  · exact (quote_no s hs h w).mono fun e w' ⟨he, hb⟩ => ⟨_, he, hb⟩
  · exact (quote_ok s hs h w).mono fun e w' ⟨he, hb⟩ => ⟨_, he, hb⟩
end Go.Proofs.YtfkobhagdjaleaaGreatDoor.Sp
