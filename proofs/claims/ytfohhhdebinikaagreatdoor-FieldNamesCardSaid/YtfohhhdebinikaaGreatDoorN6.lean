/- FieldNames, the walk. -/
import Derived.Test.YtfohhhdebinikaaGreatDoorN4
namespace Go.Proofs.YtfohhhdebinikaaGreatDoor.Sp
open Go.RowKit Sl

def rowL : List Fld := [(⟨#[97]⟩, ⟨#[49]⟩), (⟨#[66]⟩, ⟨#[50, 44, 32, 120]⟩), (⟨#[65]⟩, ⟨#[51]⟩)]
def setL9 : List Fld := [(⟨#[97]⟩, ⟨#[57]⟩), (⟨#[66]⟩, ⟨#[50, 44, 32, 120]⟩)]
def setC4 : List Fld := [(⟨#[97]⟩, ⟨#[49]⟩), (⟨#[66]⟩, ⟨#[50, 44, 32, 120]⟩), (⟨#[65]⟩, ⟨#[51]⟩), (⟨#[99]⟩, ⟨#[52]⟩)]
def delA : List Fld := [(⟨#[66]⟩, ⟨#[50, 44, 32, 120]⟩)]
def badL : List Fld := [(⟨#[97]⟩, ⟨#[32, 49]⟩)]
def nmAB : List ByteArray := [⟨#[97]⟩, ⟨#[98]⟩]
def nm13 : List ByteArray := [⟨#[49]⟩, ⟨#[51]⟩]
def nm2x : List ByteArray := [⟨#[50]⟩, ⟨#[120]⟩]
theorem few_row : Few rowL := ⟨by decide, by decide⟩
theorem k_all : rowL.all chkS = true := by decide +kernel
theorem k_bytes : ofL (linesL rowL) = ⟨#[97, 58, 32, 49, 13, 10, 66, 58, 32, 50, 44, 32, 120, 13, 10, 65, 58, 32, 51, 13, 10]⟩ := by decide +kernel
theorem k_bad : badL.all chkS = false := by decide +kernel
theorem k_get : getB rowL ⟨#[65]⟩ = ⟨#[49, 44, 32, 51]⟩ := by decide +kernel
theorem k_has : (!(allB rowL ⟨#[65]⟩).isEmpty) = true := by decide +kernel
theorem k_no : (!(allB rowL ⟨#[99]⟩).isEmpty) = false := by decide +kernel
theorem k_uniq : uniq rowL = nmAB := by decide +kernel
theorem k_allB : allB rowL ⟨#[97]⟩ = nm13 := by decide +kernel
theorem k_list : listB rowL ⟨#[98]⟩ = nm2x := by decide +kernel
theorem k_set : setB rowL ⟨#[65]⟩ ⟨#[57]⟩ = setL9 := by decide +kernel
theorem k_set4 : setB rowL ⟨#[99]⟩ ⟨#[52]⟩ = setC4 := by decide +kernel
theorem k_del : delF rowL ⟨#[65]⟩ = delA := by decide +kernel
theorem k_ck1 : chkS (⟨#[]⟩, ⟨#[120]⟩) = false := by decide +kernel
theorem k_ck2 : chkS (⟨#[120]⟩, ⟨#[]⟩) = true := by decide +kernel
theorem k_ne : sameFs rowL [] = false := by decide +kernel

def GetsF (n : Nat) (S : List Fld) (w : World) (e : Ending) (w' : World) : Prop := ∃ ao c, e = .returned (.slice ao n c) ∧ Rd w' (.slice ao n c) n 2 (fldV S) ∧ Below w.heap.size w w'
def GetsS (n : Nat) (S : List ByteArray) (w : World) (e : Ending) (w' : World) : Prop := ∃ ao c, e = .returned (.slice ao n c) ∧ Rd w' (.slice ao n c) n 1 (strV S) ∧ Below w.heap.size w w'
theorem gets_f {S : List Fld} {w : World} {e : Ending} {w' : World} (n : Nat) (hn : S.length = n) (h : RetF w S e w') : GetsF n S w e w' := by
  subst hn
  obtain ⟨v, rfl, ho, hb⟩ := h
  have hr := Rd.own ho
  obtain ⟨ao, c, rfl⟩ := hr.form
  exact ⟨ao, c, rfl, hr, hb⟩
theorem gets_s {S : List ByteArray} {w : World} {e : Ending} {w' : World} (n : Nat) (hn : S.length = n) (h : RetS w S e w') : GetsS n S w e w' := by
  subst hn
  obtain ⟨v, rfl, ho, hb⟩ := h
  have hr := Rd.own ho
  obtain ⟨ao, c, rfl⟩ := hr.form
  exact ⟨ao, c, rfl, hr, hb⟩

theorem row_any (w : World) : Calls Tryz.prog 26 #[] w (GetsF 3 rowL w) := by
  have hr := hide (rd_litF w rowL 3 rfl)
  go_enter Tryz.func26, Tryz.ntmps26
  go_wp2_with fail
  go_ret
  exact ⟨_, _, rfl, unhide hr, (Below.refl _ _).alloc (Nat.le_refl _) _⟩
theorem sz_row : ∀ f ∈ rowL, f.1.size ≤ 100000 ∧ f.2.size ≤ 100000 := fun f hf => by have := few_row.2 f hf; omega
theorem n_bytes (v : Value) (w : World) (hv : Rd w v 3 2 (fldV rowL)) : Calls Tryz.prog 11 #[v] w fun e w' => e = .returned (.tuple #[.string ⟨#[97, 58, 32, 49, 13, 10, 66, 58, 32, 50, 44, 32, 120, 13, 10, 65, 58, 32, 51, 13, 10]⟩, .int .i64 0]) ∧ Below w.heap.size w w' := by
  refine (bytes_any v rowL (by decide) sz_row w hv).mono ?_
  rintro e w' ⟨h, hb⟩
  unfold BytesO at h
  rw [k_all, k_bytes] at h
  exact ⟨h, hb⟩
theorem n_bad (v : Value) (w : World) (hv : Rd w v 1 2 (fldV badL)) : Calls Tryz.prog 11 #[v] w fun e w' => e = .returned (.tuple #[.string ⟨#[]⟩, .int .i64 4]) ∧ Below w.heap.size w w' := by
  refine (bytes_any v badL (by decide) (by decide) w hv).mono ?_
  rintro e w' ⟨h, hb⟩
  unfold BytesO at h
  rw [k_bad] at h
  exact ⟨h, hb⟩
theorem n_get (v : Value) (w : World) (hv : Rd w v 3 2 (fldV rowL)) : Calls Tryz.prog 24 #[v, .string ⟨#[65]⟩] w fun e w' => e = .returned (.tuple #[.string ⟨#[49, 44, 32, 51]⟩, .bool true]) ∧ Below w.heap.size w w' := by
  have h := fget_any v rowL ⟨#[65]⟩ few_row (by decide) w hv
  rw [k_get, k_has] at h
  exact h
theorem n_no (v : Value) (w : World) (hv : Rd w v 3 2 (fldV rowL)) : Calls Tryz.prog 24 #[v, .string ⟨#[99]⟩] w fun e w' => (∃ x, e = .returned (.tuple #[.string x, .bool false])) ∧ Below w.heap.size w w' := by
  have h := fget_any v rowL ⟨#[99]⟩ few_row (by decide) w hv
  rw [k_no] at h
  refine h.mono ?_
  rintro e w' ⟨rfl, hb⟩
  exact ⟨⟨_, rfl⟩, hb⟩
theorem n_names (v : Value) (w : World) (hv : Rd w v 3 2 (fldV rowL)) : Calls Tryz.prog 17 #[v] w fun e w' => ∃ ao c, e = .returned (.tuple #[.slice ao 2 c, .bool true]) ∧ Rd w' (.slice ao 2 c) 2 1 (strV nmAB) ∧ Below w.heap.size w w' := by
  have h := lnames_any v rowL (by decide) (fun f hf => (sz_row f hf).1) w hv
  rw [k_uniq] at h
  refine h.mono ?_
  rintro e w' ⟨v, rfl, ho, hb⟩
  have hr : Rd w' v 2 1 (strV nmAB) := Rd.own ho
  obtain ⟨ao, c, rfl⟩ := hr.form
  exact ⟨ao, c, rfl, hr, hb⟩
theorem n_all (v : Value) (w : World) (hv : Rd w v 3 2 (fldV rowL)) : Calls Tryz.prog 18 #[v, .string ⟨#[97]⟩] w (GetsS 2 nm13 w) := by
  have h := fall_any v rowL ⟨#[97]⟩ few_row (by decide) w hv
  rw [k_allB] at h
  exact h.mono fun e w' h => gets_s 2 rfl h
theorem n_list (v : Value) (w : World) (hv : Rd w v 3 2 (fldV rowL)) : Calls Tryz.prog 21 #[v, .string ⟨#[98]⟩] w (GetsS 2 nm2x w) := by
  have h := flist_any v rowL ⟨#[98]⟩ few_row (by decide) w hv
  rw [k_list] at h
  exact h.mono fun e w' h => gets_s 2 rfl h
theorem n_set (v : Value) (w : World) (hv : Rd w v 3 2 (fldV rowL)) : Calls Tryz.prog 22 #[v, .string ⟨#[65]⟩, .string ⟨#[57]⟩] w (GetsF 2 setL9 w) := by
  have h := fset_any v rowL ⟨#[65]⟩ ⟨#[57]⟩ (by decide) (fun f hf => (few_row.2 f hf).1) (by decide) w hv
  rw [k_set] at h
  exact h.mono fun e w' h => gets_f 2 rfl h
theorem n_set4 (v : Value) (w : World) (hv : Rd w v 3 2 (fldV rowL)) : Calls Tryz.prog 22 #[v, .string ⟨#[99]⟩, .string ⟨#[52]⟩] w (GetsF 4 setC4 w) := by
  have h := fset_any v rowL ⟨#[99]⟩ ⟨#[52]⟩ (by decide) (fun f hf => (few_row.2 f hf).1) (by decide) w hv
  rw [k_set4] at h
  exact h.mono fun e w' h => gets_f 4 rfl h
theorem n_del (v : Value) (w : World) (hv : Rd w v 3 2 (fldV rowL)) : Calls Tryz.prog 23 #[v, .string ⟨#[65]⟩] w (GetsF 1 delA w) := by
  have h := fdel_any v rowL ⟨#[65]⟩ (by decide) (fun f hf => (few_row.2 f hf).1) (by decide) w hv
  rw [k_del] at h
  exact h.mono fun e w' h => gets_f 1 rfl h
theorem n_ck1 (w : World) : Calls Tryz.prog 12 #[.agg #[.string ⟨#[]⟩, .string ⟨#[120]⟩]] w fun e w' => e = .returned (.int .i64 4) ∧ Below w.heap.size w w' := by
  have h := check_any ⟨#[]⟩ ⟨#[120]⟩ (by decide) (by decide) w
  rw [k_ck1] at h
  exact h
theorem n_ck2 (w : World) : Calls Tryz.prog 12 #[.agg #[.string ⟨#[120]⟩, .string ⟨#[]⟩]] w fun e w' => e = .returned (.int .i64 0) ∧ Below w.heap.size w w' := by
  have h := check_any ⟨#[120]⟩ ⟨#[]⟩ (by decide) (by decide) w
  rw [k_ck2] at h
  exact h
theorem n_same (u v : Value) (S : List ByteArray) (hS : S.length = 2) (w : World) (hu : Rd w u 2 1 (strV S)) (hv : Rd w v 2 1 (strV S)) : Calls Tryz.prog 20 #[u, v] w fun e w' => e = .returned (.bool true) ∧ Below w.heap.size w w' := by
  rw [← hS] at hu hv
  have h := ksameS_any u v S S (by omega) (by omega) w hu hv
  rw [sameLS_self] at h
  exact h
theorem n_fs (u v : Value) (w : World) (hu : Rd w u 2 2 (fldV setL9)) (hv : Rd w v 2 2 (fldV setL9)) : Calls Tryz.prog 16 #[u, v] w fun e w' => e = .returned (.bool true) ∧ Below w.heap.size w w' := by
  have h := fsame_any u v setL9 setL9 (by decide) (by decide) (by decide) (by decide) w hu hv
  rw [sameFs_self] at h
  exact h
theorem n_nil (w : World) : Calls Tryz.prog 16 #[.slice none 0 0, .slice none 0 0] w fun e w' => e = .returned (.bool true) ∧ Below w.heap.size w w' := by
  have h := fsame_any (.slice none 0 0) (.slice none 0 0) [] [] (by decide) (by decide) (by decide) (by decide) w (Rd.nil w 2) (Rd.nil w 2)
  rw [sameFs_self] at h
  exact h
theorem n_ne (u : Value) (w : World) (hu : Rd w u 3 2 (fldV rowL)) : Calls Tryz.prog 16 #[u, .slice none 0 0] w fun e w' => e = .returned (.bool false) ∧ Below w.heap.size w w' := by
  have h := fsame_any u (.slice none 0 0) rowL [] (by decide) (by decide) (fun f hf => (sz_row f hf).1) (by decide) w hu (Rd.nil w 2)
  rw [k_ne] at h
  exact h
end Go.Proofs.YtfohhhdebinikaaGreatDoor.Sp
