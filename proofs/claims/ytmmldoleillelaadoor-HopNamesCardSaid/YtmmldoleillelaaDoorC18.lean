/- The example that is asked first. -/
import Derived.Test.YtmmldoleillelaaDoorC17
import Derived.Deep.CutRange
namespace Go.Proofs.YtmmldoleillelaaDoor.Sp
open Go.RowKit Sl

theorem one_any (x y : ByteArray) (w : World) : Calls Tryd.prog 20 #[.string x, .string y] w fun e w' => e = .returned (.agg #[.string x, .string y]) ∧ Below w.heap.size w w' := by
  go_enter Tryd.func20, Tryd.ntmps20
  go_wp2_with fail
  have hl := run_loadVar_row (P := Tryd.prog) (w.alloc (.cells #[.string x, .string y] 35)) w.heap.size 35 35 #[.string x, .string y] (0, 0) _ (alloc_at _ _) Tryd.underlying35 rfl (by kernel_rfl)
  exact bodyPost_ret (Mem.results_cell1 (ad := ⟨w.heap.size, 0, none⟩) Tryd.results20 rfl hl) rfl ⟨rfl, (Below.refl _ _).alloc (Nat.le_refl _) _⟩

theorem via_nil (name : ByteArray) (hn : name.size ≤ 2000) (w : World) :
    Calls Tryd.prog 22 #[.slice none 0 0, .int .i64 1, .string name] w fun e w' => ∃ ao c, e = .returned (.slice ao 1 c) ∧ Below w.heap.size w w' := by
  refine (via_any (.slice none 0 0) [] 1 name ⟨by simp, by simp⟩ (by omega) hn w (Rd.nil w 2)).mono ?_
  rintro e w' ⟨v, rfl, ho, hb⟩
  obtain ⟨ao, c, rfl⟩ := (Rd.own ho).form
  exact ⟨ao, c, rfl, hb⟩

def liveL : List Fld := [(⟨#[67, 111, 110, 110, 101, 99, 116, 105, 111, 110]⟩, ⟨#[120, 44, 32, 99, 108, 111, 115, 101]⟩), (⟨#[88]⟩, ⟨#[49]⟩), (⟨#[89]⟩, ⟨#[50]⟩)]
theorem live_strip : stripF liveL = [(⟨#[89]⟩, ⟨#[50]⟩)] := by decide +kernel
theorem rd_litF (w : World) (A : List Fld) (n : Nat) (hn : A.length = n) : Rd (w.alloc (.cells (fldV A).toArray 35)) (.slice (some ⟨w.heap.size, 0, none⟩) n n) n 2 (fldV A) := by
  subst hn
  refine ⟨_, _, rfl, Nat.le_refl _, (fun h => by cases h), fldV_len A, fun _ => ⟨w.heap.size, 0, rfl, by simp, fun i u hu => ?_⟩⟩
  rw [World.cell?_alloc_at _ _ _ _ rfl]
  simpa using hu

set_option maxRecDepth 100000 in
set_option maxHeartbeats 4000000 in
theorem lives_any (w : World) : Calls Tryd.prog 8 #[] w fun e w' => e = .returned (.bool true) ∧ Below w.heap.size w w' := by
  have hst := hide (fun w => strip_any _ liveL ⟨by decide, by decide⟩ _ (rd_litF w liveL 3 rfl))
  have HB := hide (Below.refl w.heap.size w)
  have hvia := hide (fun w => via_nil ⟨#[112]⟩ (by decide) w)
  go_enter Tryd.func8, Tryd.ntmps8
  go_upto_region 2 with (first
    | (go_at_call 20; refine (one_any _ _ _).mono ?_; rintro e w2 ⟨rfl, hb2⟩; have HB := hide ((unhide HB).trans (hb2.mono (unhide HB).size)); clear hb2)
    | (go_at_call 10; refine (unhide hst _).mono ?_; rintro e w5 ⟨v5, rfl, ho5, hb5⟩; rw [live_strip] at ho5; have HB := hide (((unhide HB).alloc (unhide HB).size _).trans (hb5.mono (by have := (unhide HB).size; simp; omega))); obtain ⟨g, cp, rfl, _⟩ := World.ownsRow.form ho5 (by decide); have H5 := hide ho5; clear ho5 hb5))
  have d1 := (own_fld (unhide H5) rfl 0 (by decide)).1
  have d2 := (own_fld (unhide H5) rfl 0 (by decide)).2
  simp only [Nat.zero_mul, Nat.zero_add, List.getElem_cons_zero] at d1 d2
  have z5 : g < w5.heap.size := World.block_lt_of_cell? w5 ⟨g, 0, none⟩ d1
  have hle := (unhide HB).size
  have heq := fun w => eqlFld ⟨#[89]⟩ ⟨#[50]⟩ ⟨#[89]⟩ ⟨#[50]⟩ w
  rw [show (((⟨#[89]⟩ : ByteArray).toList == (⟨#[89]⟩ : ByteArray).toList) && ((⟨#[50]⟩ : ByteArray).toList == (⟨#[50]⟩ : ByteArray).toList)) = true by simp] at heq
  have hgu := fun x y xs ys w => guardFld .eql x y xs ys w
  have HBB := HB
  go_region_with (first
    | (go_at_call 20; refine (one_any _ _ _).mono ?_; rintro e w6 ⟨rfl, hb6⟩; have x1 := cell_call hb6 (a := ⟨g, 0, none⟩) (v := .string ⟨#[89]⟩) (by go_cell); have x2 := cell_call hb6 (a := ⟨g, 1, none⟩) (v := .string ⟨#[50]⟩) (by go_cell); have HB6 := hide hb6; clear hb6)
    | (go_at_call 22; refine (unhide hvia _).mono ?_; rintro e w7 ⟨ao7, c7, rfl, hb7⟩; have HB7 := hide hb7; clear hb7))
  all_goals
    go_wp2_with fail
    go_ret
    have hb5 := unhide HBB
    have hb6 := unhide HB6
    have hb7 := unhide HB7
    have q6 := hb6.size
    have q7 := hb7.size
    (try simp at q6)
    (try simp at q7)
    exact ⟨rfl, (by repeat (first | (with_reducible exact Below.refl _ _) | (with_reducible assumption) | (with_reducible refine Below.drew ?_) | (with_reducible refine below_drewN ?_ _) | ((with_reducible refine bAlloc ?_ ?_ _); focus (first | omega | (simp; done) | (simp; omega))) | ((with_reducible refine bSet ?_ ?_ _); focus (first | omega | (simp; done) | (simp; omega))) | (refine Below.trans ?_ (Below.mono (by with_reducible assumption) (by first | omega | (simp; done) | (simp; omega))))))⟩
end Go.Proofs.YtmmldoleillelaaDoor.Sp
