/- Get, Via. -/
import Derived.Test.YtfohhhdebinikaaGreatDoorC15
namespace Go.Proofs.YtfohhhdebinikaaGreatDoor.Sp
open Go.RowKit Sl

def joinB (A : List ByteArray) : ByteArray := ofL (Lib.join (A.map (·.data.toList)) [44, 32])
def getB (L : List Fld) (name : ByteArray) : ByteArray := joinB (allB L name)
theorem lens_le : ∀ (A : List ByteArray) (c : Nat), (∀ x ∈ A, x.size ≤ c) → Lib.lens (A.map (·.data.toList)) ≤ A.length * c
  | [], _, _ => by simp [Lib.lens]
  | x :: t, c, h => by
    have h1 := lens_le t c (fun y hy => h y (List.mem_cons_of_mem _ hy))
    have h2 := h x List.mem_cons_self
    have h3 : x.data.toList.length = x.size := by simp
    simp only [Lib.lens, List.map_cons, List.foldr_cons, List.length_cons, Nat.succ_mul, List.sum_cons] at h1 ⊢
    omega
theorem join_size (A : List ByteArray) (hl : A.length ≤ 100) (h : ∀ x ∈ A, x.size ≤ 2000) : (Lib.join (A.map (·.data.toList)) [44, 32]).length ≤ 300000 := by
  cases A with
  | nil => simp [Lib.join_nil]
  | cons x t =>
    rw [List.map_cons, Lib.join_length]
    have h1 := lens_le (x :: t) 2000 h
    rw [List.map_cons] at h1
    have h2 : (x :: t).length * 2000 ≤ 100 * 2000 := Nat.mul_le_mul_right _ hl
    simp at hl ⊢
    omega

theorem join_any (v : Value) (A : List ByteArray) (hl : A.length ≤ 100) (h : ∀ x ∈ A, x.size ≤ 2000) (w : World) (hv : Rd w v A.length 1 (strV A)) :
    Calls Tryz.prog 57 #[v, .string ⟨#[44, 32]⟩] w fun e w' => e = .returned (.string (joinB A)) ∧ Below w.heap.size w w' := by
  cases A with
  | nil =>
    obtain ⟨ao, cap, rfl⟩ := hv.form
    refine (Tryz.strings_Join_none ao cap ⟨#[44, 32]⟩ w).mono ?_
    rintro e w' ⟨rfl, rfl⟩
    exact ⟨rfl, Below.refl _ _⟩
  | cons x t =>
    obtain ⟨ao, cap, rfl, hc, _, _, hcc⟩ := hv
    obtain ⟨b, off, rfl, hb, hcl⟩ := hcc (by simp [strV])
    exact Tryz.strings_Join b off cap (x :: t) ⟨#[44, 32]⟩ w (fun j y hy => hcl j _ (by
      have : (strV (x :: t))[j]? = ((x :: t)[j]?).map .string := by unfold strV; rw [List.getElem?_map]
      rw [this, hy]; rfl)) hb (by omega) hc (by have := join_size (x :: t) hl h; exact Nat.le_trans this (by omega))

theorem fget_any (v : Value) (L : List Fld) (name : ByteArray) (hL : Few L) (hn : name.size ≤ 2000) (w : World) (hv : Rd w v L.length 2 (fldV L)) :
    Calls Tryz.prog 24 #[v, .string name] w fun e w' => e = .returned (.tuple #[.string (getB L name), .bool (!(allB L name).isEmpty)]) ∧ Below w.heap.size w w' := by
  obtain ⟨ao, cap, rfl⟩ := hv.form
  have hc := hide (fall_any _ L name hL hn w hv)
  obtain ⟨hs1, hs2⟩ := allB_small hL name
  have hgt : decide (0 < (allB L name).length) = !(allB L name).isEmpty := by cases allB L name <;> simp
  have hget : getB L name = joinB (allB L name) := rfl
  rw [hget]
  obtain ⟨A, hA⟩ : ∃ A, allB L name = A := ⟨_, rfl⟩
  rw [hA] at hc hs1 hs2 hgt ⊢
  obtain ⟨yes, hy⟩ : ∃ yes, (!A.isEmpty) = yes := ⟨_, rfl⟩
  rw [hy] at hgt ⊢
  have HS2 := hide hs2
  have HV := hide hv
  have HGT := Lib.hid hgt
  clear hv hs2 hA hget hy hL hgt
  go_enter Tryz.func24, Tryz.ntmps24
  go_wp2_with (first
    | (go_at_call 18; refine (unhide hc).mono ?_; rintro e w1 ⟨v1, rfl, ho1, hb1⟩; obtain ⟨bo, cp, rfl⟩ := (Rd.own ho1).form; have hj := hide (join_any _ A hs1 (unhide HS2) w1 (Rd.own ho1)); have B1 := hide hb1; clear ho1 hb1)
    | (go_at_call 57; refine (unhide hj).mono ?_; rintro e w2 ⟨rfl, hb2⟩; have B2 := hide hb2; clear hb2))
  go_ret2
  exact ⟨by rw [← HGT.out] <;> rfl, (unhide B1).trans ((unhide B2).mono (unhide B1).size)⟩

def viaN : ByteArray := ⟨#[86, 105, 97]⟩
def viaV (L : List Fld) (digits name : ByteArray) : ByteArray :=
  (((((if (allB L viaN).isEmpty = true then getB L viaN else getB L viaN ++ ⟨#[44, 32]⟩) ++ ⟨#[49, 46]⟩) ++ digits) ++ ⟨#[32]⟩) ++ name)
def viaF (L : List Fld) (digits name : ByteArray) : List Fld := setB L viaN (viaV L digits name)

end Go.Proofs.YtfohhhdebinikaaGreatDoor.Sp
