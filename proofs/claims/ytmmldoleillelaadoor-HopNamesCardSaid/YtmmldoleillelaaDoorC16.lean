/- Get, Via. -/
import Derived.Test.YtmmldoleillelaaDoorC15
namespace Go.Proofs.YtmmldoleillelaaDoor.Sp
open Go.RowKit Sl

def joinB (A : List ByteArray) : ByteArray := ofL (Lib.join (A.map (·.data.toList)) [44, 32])
def getB (L : List Fld) (name : ByteArray) : ByteArray := joinB (allB L name)
theorem lens_le : ∀ (A : List ByteArray) (c : Nat), (∀ x ∈ A, x.size ≤ c) → Lib.lens (A.map (·.data.toList)) ≤ A.length * c
  | [], _, _ => by simp [Lib.lens]
  | x :: t, c, h => by
    have h1 := lens_le t c (fun y hy => h y (List.mem_cons_of_mem _ hy))
    have h2 := h x List.mem_cons_self
    have h3 : x.data.toList.length = x.size := by simp
    simp only [Lib.lens, List.map_cons, List.foldr_cons, List.length_cons, Nat.succ_mul, List.sum_cons] at h1 ⊢
    omega
theorem join_size (A : List ByteArray) (hl : A.length ≤ 100) (h : ∀ x ∈ A, x.size ≤ 2000) : (Lib.join (A.map (·.data.toList)) [44, 32]).length ≤ 300000 := by
  cases A with
  | nil => simp [Lib.join_nil]
  | cons x t =>
    rw [List.map_cons, Lib.join_length]
    have h1 := lens_le (x :: t) 2000 h
    rw [List.map_cons] at h1
    have h2 : (x :: t).length * 2000 ≤ 100 * 2000 := Nat.mul_le_mul_right _ hl
    simp at hl ⊢
    omega

theorem join_any (v : Value) (A : List ByteArray) (hl : A.length ≤ 100) (h : ∀ x ∈ A, x.size ≤ 2000) (w : World) (hv : Rd w v A.length 1 (strV A)) :
    Calls Tryd.prog 59 #[v, .string ⟨#[44, 32]⟩] w fun e w' => e = .returned (.string (joinB A)) ∧ Below w.heap.size w w' := by
  cases A with
  | nil =>
    obtain ⟨ao, cap, rfl⟩ := hv.form
    refine (Tryd.strings_Join_none ao cap ⟨#[44, 32]⟩ w).mono ?_
    rintro e w' ⟨rfl, rfl⟩
    exact ⟨rfl, Below.refl _ _⟩
  | cons x t =>
    obtain ⟨ao, cap, rfl, hc, _, _, hcc⟩ := hv
    obtain ⟨b, off, rfl, hb, hcl⟩ := hcc (by simp [strV])
    exact Tryd.strings_Join b off cap (x :: t) ⟨#[44, 32]⟩ w (fun j y hy => hcl j _ (by
      have : (strV (x :: t))[j]? = ((x :: t)[j]?).map .string := by unfold strV; rw [List.getElem?_map]
      rw [this, hy]; rfl)) hb (by omega) hc (by have := join_size (x :: t) hl h; exact Nat.le_trans this (by omega))

theorem fget_any (v : Value) (L : List Fld) (name : ByteArray) (hL : Few L) (hn : name.size ≤ 2000) (w : World) (hv : Rd w v L.length 2 (fldV L)) :
    Calls Tryd.prog 43 #[v, .string name] w fun e w' => e = .returned (.tuple #[.string (getB L name), .bool (!(allB L name).isEmpty)]) ∧ Below w.heap.size w w' := by
  obtain ⟨ao, cap, rfl⟩ := hv.form
  have hc := hide (fall_any _ L name hL hn w hv)
  obtain ⟨hs1, hs2⟩ := allB_small hL name
  have hgt : decide (0 < (allB L name).length) = !(allB L name).isEmpty := by cases allB L name <;> simp
  have hget : getB L name = joinB (allB L name) := rfl
  rw [hget]
  obtain ⟨A, hA⟩ : ∃ A, allB L name = A := ⟨_, rfl⟩
  rw [hA] at hc hs1 hs2 hgt ⊢
  obtain ⟨yes, hy⟩ : ∃ yes, (!A.isEmpty) = yes := ⟨_, rfl⟩
  rw [hy] at hgt ⊢
  have HS2 := hide hs2
  have HV := hide hv
  have HGT := Lib.hid hgt
  clear hv hs2 hA hget hy hL hgt
  go_enter Tryd.func43, Tryd.ntmps43
  go_wp2_with (first
    | (go_at_call 52; refine (unhide hc).mono ?_; rintro e w1 ⟨v1, rfl, ho1, hb1⟩; obtain ⟨bo, cp, rfl⟩ := (Rd.own ho1).form; have hj := hide (join_any _ A hs1 (unhide HS2) w1 (Rd.own ho1)); have B1 := hide hb1; clear ho1 hb1)
    | (go_at_call 59; refine (unhide hj).mono ?_; rintro e w2 ⟨rfl, hb2⟩; have B2 := hide hb2; clear hb2))
  go_ret2
  exact ⟨by rw [← HGT.out] <;> rfl, (unhide B1).trans ((unhide B2).mono (unhide B1).size)⟩

def viaN : ByteArray := ⟨#[86, 105, 97]⟩
def viaV (L : List Fld) (digits name : ByteArray) : ByteArray :=
  (((((if (allB L viaN).isEmpty = true then getB L viaN else getB L viaN ++ ⟨#[44, 32]⟩) ++ ⟨#[49, 46]⟩) ++ digits) ++ ⟨#[32]⟩) ++ name)
def viaF (L : List Fld) (digits name : ByteArray) : List Fld := setB L viaN (viaV L digits name)

set_option maxRecDepth 100000 in
theorem via_any (v : Value) (L : List Fld) (minor : Nat) (name : ByteArray) (hL : Few L) (hm : minor < 100) (hn : name.size ≤ 2000) (w : World) (hv : Rd w v L.length 2 (fldV L)) :
    Calls Tryd.prog 22 #[v, .int .i64 minor, .string name] w (RetF w (viaF L ⟨(Lib.decDigits minor).toArray⟩ name)) := by
  obtain ⟨ao, cap, rfl⟩ := hv.form
  have hc := hide (fget_any _ L viaN hL (by decide) w hv)
  have hset := hide (fun value w' (h : Below w.heap.size w w') => fset_any _ L viaN value (by have := hL.1; omega) (fun f hf => (hL.2 f hf).1) (by decide) w' (hv.below h))
  unfold viaF viaV
  obtain ⟨d, hd⟩ : ∃ d : ByteArray, (⟨(Lib.decDigits minor).toArray⟩ : ByteArray) = d := ⟨_, rfl⟩
  obtain ⟨g, hg⟩ : ∃ g, getB L viaN = g := ⟨_, rfl⟩
  obtain ⟨em, hem⟩ : ∃ em, (allB L viaN).isEmpty = em := ⟨_, rfl⟩
  have hit := hide (fun w => Tryd.strconv_Itoa_small minor hm w)
  have hds : d.size ≤ 2 := by
    have h1 : ∀ i, i < 100 → (Lib.decDigits i).length ≤ 2 := by decide +kernel
    rw [← hd, size_list (show (⟨(Lib.decDigits minor).toArray⟩ : ByteArray).data.toList = Lib.decDigits minor from rfl)]
    exact h1 minor hm
  have hgs : g.size ≤ 300000 := by
    rw [← hg, show (getB L viaN).size = (Lib.join ((allB L viaN).map (·.data.toList)) [44, 32]).length from size_list rfl]
    exact join_size _ (allB_small hL viaN).1 (allB_small hL viaN).2
  rw [hd] at hit ⊢
  rw [hg] at hc ⊢
  rw [hem] at hc ⊢
  clear hv hL hd hg hem
  cases em
  all_goals
    go_enter Tryd.func22, Tryd.ntmps22
    go_wp2_with (first
      | (go_at_call 43; refine (unhide hc).mono ?_; rintro e w1 ⟨rfl, hb1⟩; have B1 := hide hb1; clear hb1)
      | (go_at_call 45; refine (unhide hit _).mono ?_; rintro e w2 ⟨rfl, rfl⟩)
      | (go_at_call 44; refine (unhide hset _ _ (unhide B1)).mono ?_; rintro e w3 ⟨v3, rfl, ho3, hb3⟩; have H3 := hide ho3; have B3 := hide hb3; clear ho3 hb3))
    go_ret
    exact ⟨_, rfl, World.ownsRow.mono (unhide H3) (unhide B1).size, (unhide B1).trans ((unhide B3).mono (unhide B1).size)⟩
end Go.Proofs.YtmmldoleillelaaDoor.Sp
