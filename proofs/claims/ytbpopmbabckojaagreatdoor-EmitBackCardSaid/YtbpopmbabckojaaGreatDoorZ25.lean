/- Lemmas for the statement's proof, several texts in one: Q6. -/
import Derived.Test.YtbpopmbabckojaaGreatDoorZ24
import Derived.Test.YtbpopmbabckojaaGreatDoorZ18
set_option linter.unusedVariables false
set_option linter.unusedSimpArgs false
/- The reference's framing: frame, Request, Response. -/
section
namespace Go.Proofs.YtbpopmbabckojaaGreatDoor.Sp
open Go.RowKit Sl

def frV (k : Int) (n : Nat) : Value := .agg #[.int .i64 k, .int .i64 (n : Int)]
theorem frS_chunks {o : Option Nat} : frS o true = (3, 0, true) := by cases o <;> rfl

set_option maxRecDepth 100000 in
set_option maxHeartbeats 2000000 in
theorem frame_any (mi : Int) (v : Value) (F : List Fld) (o : Option Nat) (c : Bool) (hF : Few F) (ho : CLis F o) (hc0 : TEis F c) (hok : c = true → mi ≠ 0 ∧ o = none) (w : World) (hv : Rd w v F.length 2 (fldV F)) :
    Calls Tryz.prog 107 #[.int .i64 mi, v] w fun e w' => e = .returned (.tuple #[frV (frS o c).1 (frS o c).2.1, .bool (frS o c).2.2, .int .i64 0]) ∧ Below w.heap.size w w' := by
  have q1 := hide (fun w1 (hb : Below w.heap.size w w1) => length_any v F o hF ho w1 (hv.below hb))
  have q2 := hide (fun w1 (hb : Below w.heap.size w w1) => coded_any v F c hF hc0 w1 (hv.below hb))
  have hn := ho.len
  obtain ⟨ao, cap, rfl⟩ := hv.form
  clear hv ho hc0 hF
  unfold frV
  cases c with
  | true =>
    obtain ⟨m0, rfl⟩ := hok rfl
    have b0 : (mi == 0) = false := by rw [beq_eq_false_iff_ne]; exact m0
    have hS := Lib.hid (frS_chunks (o := (none : Option Nat)))
    simp only [Option.getD_none, Option.isSome_none] at q1
    clear hok m0 hn
    go_enter Tryz.func107, Tryz.ntmps107
    go_upto_region 1 with fail
    have HR0 := hide (Reg.Has.new w [.int .i64 0, .int .i64 0] 97)
    have HB0 := hide ((Below.refl w.heap.size w).alloc (Nat.le_refl _) (.cells #[.int .i64 0, .int .i64 0] 97))
    have zr := (unhide HR0).lt
    generalize w.alloc (.cells #[.int .i64 0, .int .i64 0] 97) = w0 at HR0 HB0 zr ⊢
    go_wp2_with fail
    refine (unhide q1 _ (unhide HB0)).mono ?_; rintro e w1 ⟨rfl, hb1⟩
    have HR1 := hide ((unhide HR0).call hb1)
    have HB1 := hide ((unhide HB0).trans (hb1.mono (unhide HB0).size))
    clear HR0 HB0 hb1
    go_wp2_with fail
    refine (unhide q2 _ (unhide HB1)).mono ?_; rintro e w2 ⟨rfl, hb2⟩
    have HR2 := hide ((unhide HR1).call hb2)
    have HB2 := hide ((unhide HB1).trans (hb2.mono (unhide HB1).size))
    clear HR1 HB1 hb2
    go_wp2_with (first | (refine wpList_storeFr rfl _ _ rfl w.heap.size rfl #[.int .i64 3, .int .i64 0] rfl rfl _ rfl (unhide HR2) (by kernel_rfl) ?_; intro HZ; have HBZ := below_setCells w.heap.size (Nat.le_refl _) (#[.int .i64 3, .int .i64 0]).toList 0 _ (unhide HB2); generalize World.setCells _ w.heap.size 0 _ = w9 at HZ HBZ ⊢; have ZZ := hide HZ; have BZ := hide HBZ; clear HZ HBZ))
    have hl := run_loadFr w.heap.size #[.int .i64 3, .int .i64 0] rfl (unhide ZZ)
    exact bodyPost_ret (results_cell3 (ad := ⟨w.heap.size, 0, none⟩) Tryz.results107 rfl hl) rfl ⟨by rw [hS.out] <;> rfl, unhide BZ⟩
  | false =>
    clear hok
    cases o with
    | none =>
      simp only [Option.getD_none, Option.isSome_none] at q1
      clear hn
      go_enter Tryz.func107, Tryz.ntmps107
      go_upto_region 1 with fail
      have HR0 := hide (Reg.Has.new w [.int .i64 0, .int .i64 0] 97)
      have HB0 := hide ((Below.refl w.heap.size w).alloc (Nat.le_refl _) (.cells #[.int .i64 0, .int .i64 0] 97))
      have zr := (unhide HR0).lt
      generalize w.alloc (.cells #[.int .i64 0, .int .i64 0] 97) = w0 at HR0 HB0 zr ⊢
      go_wp2_with fail
      refine (unhide q1 _ (unhide HB0)).mono ?_; rintro e w1 ⟨rfl, hb1⟩
      have HR1 := hide ((unhide HR0).call hb1)
      have HB1 := hide ((unhide HB0).trans (hb1.mono (unhide HB0).size))
      clear HR0 HB0 hb1
      go_wp2_with fail
      refine (unhide q2 _ (unhide HB1)).mono ?_; rintro e w2 ⟨rfl, hb2⟩
      have HR2 := hide ((unhide HR1).call hb2)
      have HB2 := hide ((unhide HB1).trans (hb2.mono (unhide HB1).size))
      clear HR1 HB1 hb2
      go_wp2_with (first | (refine wpList_storeFr rfl _ _ rfl w.heap.size rfl #[.int .i64 1, .int .i64 0] rfl rfl _ rfl (unhide HR2) (by kernel_rfl) ?_; intro HZ; have HBZ := below_setCells w.heap.size (Nat.le_refl _) (#[.int .i64 1, .int .i64 0]).toList 0 _ (unhide HB2); generalize World.setCells _ w.heap.size 0 _ = w9 at HZ HBZ ⊢; have ZZ := hide HZ; have BZ := hide HBZ; clear HZ HBZ))
      have hl := run_loadFr w.heap.size #[.int .i64 1, .int .i64 0] rfl (unhide ZZ)
      exact bodyPost_ret (results_cell3 (ad := ⟨w.heap.size, 0, none⟩) Tryz.results107 rfl hl) rfl ⟨rfl, unhide BZ⟩
    | some n =>
      simp only [Option.getD_some, Option.isSome_some] at q1
      cases n with
      | zero =>
        clear hn
        go_enter Tryz.func107, Tryz.ntmps107
        go_upto_region 1 with fail
        have HR0 := hide (Reg.Has.new w [.int .i64 0, .int .i64 0] 97)
        have HB0 := hide ((Below.refl w.heap.size w).alloc (Nat.le_refl _) (.cells #[.int .i64 0, .int .i64 0] 97))
        have zr := (unhide HR0).lt
        generalize w.alloc (.cells #[.int .i64 0, .int .i64 0] 97) = w0 at HR0 HB0 zr ⊢
        go_wp2_with fail
        refine (unhide q1 _ (unhide HB0)).mono ?_; rintro e w1 ⟨rfl, hb1⟩
        have HR1 := hide ((unhide HR0).call hb1)
        have HB1 := hide ((unhide HB0).trans (hb1.mono (unhide HB0).size))
        clear HR0 HB0 hb1
        go_wp2_with fail
        refine (unhide q2 _ (unhide HB1)).mono ?_; rintro e w2 ⟨rfl, hb2⟩
        have HR2 := hide ((unhide HR1).call hb2)
        have HB2 := hide ((unhide HB1).trans (hb2.mono (unhide HB1).size))
        clear HR1 HB1 hb2
        go_wp2_with (first | (refine wpList_storeFr rfl _ _ rfl w.heap.size rfl #[.int .i64 1, .int .i64 0] rfl rfl _ rfl (unhide HR2) (by kernel_rfl) ?_; intro HZ; have HBZ := below_setCells w.heap.size (Nat.le_refl _) (#[.int .i64 1, .int .i64 0]).toList 0 _ (unhide HB2); generalize World.setCells _ w.heap.size 0 _ = w9 at HZ HBZ ⊢; have ZZ := hide HZ; have BZ := hide HBZ; clear HZ HBZ))
        have hl := run_loadFr w.heap.size #[.int .i64 1, .int .i64 0] rfl (unhide ZZ)
        exact bodyPost_ret (results_cell3 (ad := ⟨w.heap.size, 0, none⟩) Tryz.results107 rfl hl) rfl ⟨rfl, unhide BZ⟩
      | succ n =>
        have hn2 := hn _ rfl
        clear hn
        obtain ⟨m, hm⟩ : ∃ m, n + 1 = m := ⟨_, rfl⟩
        have hS := Lib.hid (show frS (some (n + 1)) false = (2, m, true) by rw [← hm]; rfl)
        have hp0 : 0 < m := by omega
        rw [hm] at q1 hn2 hS ⊢
        clear hm
        go_enter Tryz.func107, Tryz.ntmps107
        go_upto_region 1 with fail
        have HR0 := hide (Reg.Has.new w [.int .i64 0, .int .i64 0] 97)
        have HB0 := hide ((Below.refl w.heap.size w).alloc (Nat.le_refl _) (.cells #[.int .i64 0, .int .i64 0] 97))
        have zr := (unhide HR0).lt
        generalize w.alloc (.cells #[.int .i64 0, .int .i64 0] 97) = w0 at HR0 HB0 zr ⊢
        go_wp2_with fail
        refine (unhide q1 _ (unhide HB0)).mono ?_; rintro e w1 ⟨rfl, hb1⟩
        have HR1 := hide ((unhide HR0).call hb1)
        have HB1 := hide ((unhide HB0).trans (hb1.mono (unhide HB0).size))
        clear HR0 HB0 hb1
        go_wp2_with fail
        refine (unhide q2 _ (unhide HB1)).mono ?_; rintro e w2 ⟨rfl, hb2⟩
        have HR2 := hide ((unhide HR1).call hb2)
        have HB2 := hide ((unhide HB1).trans (hb2.mono (unhide HB1).size))
        clear HR1 HB1 hb2
        go_wp2_with (first | (refine wpList_storeFr rfl _ _ rfl w.heap.size rfl #[.int .i64 2, .int .i64 m] rfl rfl _ rfl (unhide HR2) (by kernel_rfl) ?_; intro HZ; have HBZ := below_setCells w.heap.size (Nat.le_refl _) (#[.int .i64 2, .int .i64 m]).toList 0 _ (unhide HB2); generalize World.setCells _ w.heap.size 0 _ = w9 at HZ HBZ ⊢; have ZZ := hide HZ; have BZ := hide HBZ; clear HZ HBZ))
        have hl := run_loadFr w.heap.size #[.int .i64 2, .int .i64 m] rfl (unhide ZZ)
        exact bodyPost_ret (results_cell3 (ad := ⟨w.heap.size, 0, none⟩) Tryz.results107 rfl hl) rfl ⟨by rw [hS.out] <;> rfl, unhide BZ⟩

set_option maxRecDepth 100000 in
theorem freq_any (mi : Int) (v : Value) (F : List Fld) (o : Option Nat) (c : Bool) (hF : Few F) (ho : CLis F o) (hc0 : TEis F c) (hok : c = true → mi ≠ 0 ∧ o = none) (w : World) (hv : Rd w v F.length 2 (fldV F)) :
    Calls Tryz.prog 87 #[.int .i64 mi, v] w fun e w' => e = .returned (.tuple #[frV (frS o c).1 (frS o c).2.1, .int .i64 0]) ∧ Below w.heap.size w w' := by
  have q1 := hide (fun w1 (hb : Below w.heap.size w w1) => frame_any mi v F o c hF ho hc0 hok w1 (hv.below hb))
  obtain ⟨ao, cap, rfl⟩ := hv.form
  clear hv ho hc0 hF hok
  obtain ⟨⟨k, n, t⟩, hr⟩ : ∃ r, frS o c = r := ⟨_, rfl⟩
  rw [hr] at q1 ⊢
  clear hr
  unfold frV at q1 ⊢
  simp only at q1 ⊢
  go_enter Tryz.func87, Tryz.ntmps87
  go_upto_region 1 with fail
  have HR0 := hide (Reg.Has.new w [.int .i64 0, .int .i64 0] 97)
  have HB0 := hide ((Below.refl w.heap.size w).alloc (Nat.le_refl _) (.cells #[.int .i64 0, .int .i64 0] 97))
  have zr := (unhide HR0).lt
  generalize w.alloc (.cells #[.int .i64 0, .int .i64 0] 97) = w0 at HR0 HB0 zr ⊢
  go_wp2_with fail
  refine (unhide q1 _ (unhide HB0)).mono ?_; rintro e w1 ⟨rfl, hb1⟩
  have HR1 := hide ((unhide HR0).call hb1)
  have HB1 := hide ((unhide HB0).trans (hb1.mono (unhide HB0).size))
  clear HR0 HB0 hb1
  have z1 := (unhide HB1).size
  have HF := hide (Reg.Has.new w1 [.int .i64 0, .int .i64 0] 97)
  have HBF := hide ((unhide HB1).alloc (unhide HB1).size (.cells #[.int .i64 0, .int .i64 0] 97))
  have HRF := hide ((unhide HR1).alloc (.cells #[.int .i64 0, .int .i64 0] 97))
  have zl := (unhide HR1).lt
  go_wp2_with (first
    | (refine wpList_storeFr rfl _ _ rfl w.heap.size rfl #[.int .i64 k, .int .i64 n] rfl rfl _ rfl (unhide HR3) (by kernel_rfl) ?_; intro HZ; have HBZ := below_setCells w.heap.size (Nat.le_refl _) (#[.int .i64 k, .int .i64 n]).toList 0 _ (unhide HB3); generalize World.setCells _ w.heap.size 0 _ = w9 at HZ HBZ ⊢; have ZZ := hide HZ; have BZ := hide HBZ; clear HZ HBZ)
    | (refine wpList_loadFr rfl _ rfl w1.heap.size rfl _ rfl (unhide HZ2) ?_)
    | (refine wpList_storeFr rfl _ _ rfl w1.heap.size rfl #[.int .i64 k, .int .i64 n] rfl rfl _ rfl (unhide HF) (by kernel_rfl) ?_; intro HZ; have HR3 := hide ((But.cells (b := w1.heap.size) (#[.int .i64 k, .int .i64 n] : Array Value).toList 0 _).has (unhide HRF) (fun e => by have : w.heap.size = w1.heap.size := e; omega)); have HB3 := hide (below_setCells w1.heap.size z1 (#[.int .i64 k, .int .i64 n] : Array Value).toList 0 _ (unhide HBF)); generalize World.setCells _ w1.heap.size 0 _ = w3 at HZ HR3 HB3 ⊢; have HZ2 := hide HZ; clear HZ))
  have hl := run_loadFr w.heap.size #[.int .i64 k, .int .i64 n] rfl (unhide ZZ)
  exact bodyPost_ret (Mem.results_cell2 (ad := ⟨w.heap.size, 0, none⟩) Tryz.results87 rfl hl) rfl ⟨rfl, unhide BZ⟩
/-- what a response's content is framed by -/
def frR (m : ByteArray) (st : Int) (o : Option Nat) (c : Bool) : Int × Nat := if bareB m st = true then (1, 0) else if (frS o c).2.2 = true then ((frS o c).1, (frS o c).2.1) else (4, 0)
set_option maxRecDepth 100000 in
theorem fres_any (m : ByteArray) (st mi : Int) (v : Value) (F : List Fld) (o : Option Nat) (c : Bool) (hF : Few F) (ho : CLis F o) (hc0 : TEis F c) (hok : c = true → mi ≠ 0 ∧ o = none) (w : World) (hv : Rd w v F.length 2 (fldV F)) :
    Calls Tryz.prog 86 #[.string m, .int .i64 st, .int .i64 mi, v] w fun e w' => e = .returned (.tuple #[frV (frR m st o c).1 (frR m st o c).2, .int .i64 0]) ∧ Below w.heap.size w w' := by
  have q1 := hide (fun w => bare_any m st w)
  have q2 := hide (fun w1 (hb : Below w.heap.size w w1) => frame_any mi v F o c hF ho hc0 hok w1 (hv.below hb))
  obtain ⟨ao, cap, rfl⟩ := hv.form
  clear hv ho hc0 hF hok
  unfold frR
  obtain ⟨b, hb⟩ : ∃ b, bareB m st = b := ⟨_, rfl⟩
  rw [hb] at q1 ⊢
  clear hb
  obtain ⟨⟨k, n, t⟩, hr⟩ : ∃ r, frS o c = r := ⟨_, rfl⟩
  rw [hr] at q2 ⊢
  clear hr
  unfold frV at q2 ⊢
  simp only at q2 ⊢
  cases b
  · cases t
    · go_enter Tryz.func86, Tryz.ntmps86
      go_upto_region 1 with fail
      have HR0 := hide (Reg.Has.new w [.int .i64 0, .int .i64 0] 97)
      have HB0 := hide ((Below.refl w.heap.size w).alloc (Nat.le_refl _) (.cells #[.int .i64 0, .int .i64 0] 97))
      have zr := (unhide HR0).lt
      generalize w.alloc (.cells #[.int .i64 0, .int .i64 0] 97) = w0 at HR0 HB0 zr ⊢
      go_wp2_with fail
      refine (unhide q1 _).mono ?_; rintro e w1 ⟨rfl, rfl⟩
      go_wp2_with fail
      refine (unhide q2 _ (unhide HB0)).mono ?_; rintro e w1 ⟨rfl, hb1⟩
      have HR1 := hide ((unhide HR0).call hb1)
      have HB1 := hide ((unhide HB0).trans (hb1.mono (unhide HB0).size))
      clear HR0 HB0 hb1
      have z1 := (unhide HB1).size
      have HF := hide (Reg.Has.new w1 [.int .i64 0, .int .i64 0] 97)
      have HBF := hide ((unhide HB1).alloc (unhide HB1).size (.cells #[.int .i64 0, .int .i64 0] 97))
      have HRF := hide ((unhide HR1).alloc (.cells #[.int .i64 0, .int .i64 0] 97))
      have zl := (unhide HR1).lt
      go_wp2_with (first
        | (refine wpList_storeFr rfl _ _ rfl w.heap.size rfl #[.int .i64 4, .int .i64 0] rfl rfl _ rfl (unhide HR3) (by kernel_rfl) ?_; intro HZ; have HBZ := below_setCells w.heap.size (Nat.le_refl _) (#[.int .i64 4, .int .i64 0]).toList 0 _ (unhide HB3); generalize World.setCells _ w.heap.size 0 _ = w9 at HZ HBZ ⊢; have ZZ := hide HZ; have BZ := hide HBZ; clear HZ HBZ)
        | (refine wpList_loadFr rfl _ rfl w1.heap.size rfl _ rfl (unhide HZ2) ?_)
        | (refine wpList_storeFr rfl _ _ rfl w1.heap.size rfl #[.int .i64 k, .int .i64 n] rfl rfl _ rfl (unhide HF) (by kernel_rfl) ?_; intro HZ; have HR3 := hide ((But.cells (b := w1.heap.size) (#[.int .i64 k, .int .i64 n] : Array Value).toList 0 _).has (unhide HRF) (fun e => by have : w.heap.size = w1.heap.size := e; omega)); have HB3 := hide (below_setCells w1.heap.size z1 (#[.int .i64 k, .int .i64 n] : Array Value).toList 0 _ (unhide HBF)); generalize World.setCells _ w1.heap.size 0 _ = w3 at HZ HR3 HB3 ⊢; have HZ2 := hide HZ; clear HZ))
      have hl := run_loadFr w.heap.size #[.int .i64 4, .int .i64 0] rfl (unhide ZZ)
      exact bodyPost_ret (Mem.results_cell2 (ad := ⟨w.heap.size, 0, none⟩) Tryz.results86 rfl hl) rfl ⟨rfl, unhide BZ⟩
    · go_enter Tryz.func86, Tryz.ntmps86
      go_upto_region 1 with fail
      have HR0 := hide (Reg.Has.new w [.int .i64 0, .int .i64 0] 97)
      have HB0 := hide ((Below.refl w.heap.size w).alloc (Nat.le_refl _) (.cells #[.int .i64 0, .int .i64 0] 97))
      have zr := (unhide HR0).lt
      generalize w.alloc (.cells #[.int .i64 0, .int .i64 0] 97) = w0 at HR0 HB0 zr ⊢
      go_wp2_with fail
      refine (unhide q1 _).mono ?_; rintro e w1 ⟨rfl, rfl⟩
      go_wp2_with fail
      refine (unhide q2 _ (unhide HB0)).mono ?_; rintro e w1 ⟨rfl, hb1⟩
      have HR1 := hide ((unhide HR0).call hb1)
      have HB1 := hide ((unhide HB0).trans (hb1.mono (unhide HB0).size))
      clear HR0 HB0 hb1
      have z1 := (unhide HB1).size
      have HF := hide (Reg.Has.new w1 [.int .i64 0, .int .i64 0] 97)
      have HBF := hide ((unhide HB1).alloc (unhide HB1).size (.cells #[.int .i64 0, .int .i64 0] 97))
      have HRF := hide ((unhide HR1).alloc (.cells #[.int .i64 0, .int .i64 0] 97))
      have zl := (unhide HR1).lt
      go_wp2_with (first
        | (refine wpList_storeFr rfl _ _ rfl w.heap.size rfl #[.int .i64 k, .int .i64 n] rfl rfl _ rfl (unhide HR3) (by kernel_rfl) ?_; intro HZ; have HBZ := below_setCells w.heap.size (Nat.le_refl _) (#[.int .i64 k, .int .i64 n]).toList 0 _ (unhide HB3); generalize World.setCells _ w.heap.size 0 _ = w9 at HZ HBZ ⊢; have ZZ := hide HZ; have BZ := hide HBZ; clear HZ HBZ)
        | (refine wpList_loadFr rfl _ rfl w1.heap.size rfl _ rfl (unhide HZ2) ?_)
        | (refine wpList_storeFr rfl _ _ rfl w1.heap.size rfl #[.int .i64 k, .int .i64 n] rfl rfl _ rfl (unhide HF) (by kernel_rfl) ?_; intro HZ; have HR3 := hide ((But.cells (b := w1.heap.size) (#[.int .i64 k, .int .i64 n] : Array Value).toList 0 _).has (unhide HRF) (fun e => by have : w.heap.size = w1.heap.size := e; omega)); have HB3 := hide (below_setCells w1.heap.size z1 (#[.int .i64 k, .int .i64 n] : Array Value).toList 0 _ (unhide HBF)); generalize World.setCells _ w1.heap.size 0 _ = w3 at HZ HR3 HB3 ⊢; have HZ2 := hide HZ; clear HZ))
      have hl := run_loadFr w.heap.size #[.int .i64 k, .int .i64 n] rfl (unhide ZZ)
      exact bodyPost_ret (Mem.results_cell2 (ad := ⟨w.heap.size, 0, none⟩) Tryz.results86 rfl hl) rfl ⟨rfl, unhide BZ⟩
  · go_enter Tryz.func86, Tryz.ntmps86
    go_upto_region 1 with fail
    have HR0 := hide (Reg.Has.new w [.int .i64 0, .int .i64 0] 97)
    have HB0 := hide ((Below.refl w.heap.size w).alloc (Nat.le_refl _) (.cells #[.int .i64 0, .int .i64 0] 97))
    have zr := (unhide HR0).lt
    generalize w.alloc (.cells #[.int .i64 0, .int .i64 0] 97) = w0 at HR0 HB0 zr ⊢
    go_wp2_with fail
    refine (unhide q1 _).mono ?_; rintro e w1 ⟨rfl, rfl⟩
    go_wp2_with (first | (refine wpList_storeFr rfl _ _ rfl w.heap.size rfl #[.int .i64 1, .int .i64 0] rfl rfl _ rfl (unhide HR0) (by kernel_rfl) ?_; intro HZ; have HBZ := below_setCells w.heap.size (Nat.le_refl _) (#[.int .i64 1, .int .i64 0]).toList 0 _ (unhide HB0); generalize World.setCells _ w.heap.size 0 _ = w9 at HZ HBZ ⊢; have ZZ := hide HZ; have BZ := hide HBZ; clear HZ HBZ))
    have hl := run_loadFr w.heap.size #[.int .i64 1, .int .i64 0] rfl (unhide ZZ)
    exact bodyPost_ret (Mem.results_cell2 (ad := ⟨w.heap.size, 0, none⟩) Tryz.results86 rfl hl) rfl ⟨rfl, unhide BZ⟩
end Go.Proofs.YtbpopmbabckojaaGreatDoor.Sp
end
