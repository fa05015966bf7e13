/- field.value, Check, Line; the same by the reference. -/
import Derived.Test.YtfohhhdebinikaaGreatDoorO7
import Derived.Test.YtfohhhdebinikaaGreatDoorC12
import Derived.Lib.IndexMore
namespace Go.Proofs.YtfohhhdebinikaaGreatDoor.Sp
open Go.RowKit Sl

def cutS (c : UInt8) : List UInt8 → List UInt8 × List UInt8 × Bool
  | [] => ([], [], false)
  | b :: l => if b = c then ([], l, true) else (b :: (cutS c l).1, (cutS c l).2.1, (cutS c l).2.2)
theorem cut_one (c : UInt8) : ∀ l : List UInt8, Lib.cut l [c] = cutS c l
  | [] => rfl
  | b :: l => by
    have ih := cut_one c l
    have hg := Lib.index_ge l [c]
    unfold Lib.cut at ih ⊢
    unfold cutS Lib.index
    by_cases hb : b = c
    · subst hb
      simp
    · rw [if_neg hb]
      have hp : List.isPrefixOf [c] (b :: l) = false := by
        simp [List.isPrefixOf]
        exact fun h => hb h.symm
      rw [hp]
      simp only [Bool.false_eq_true, if_false]
      rw [← ih]
      by_cases hx : Lib.index l [c] = -1
      · simp [hx]
      · have h0 : 0 ≤ Lib.index l [c] := by omega
        have hx' : (Lib.index l [c] == -1) = false := by simpa using hx
        have h1 : 0 ≤ Lib.index l [c] + 1 := by omega
        rw [hx']
        simp only [Bool.false_eq_true, if_false]
        rw [if_pos h0, if_pos h1]
        have e1 : (Lib.index l [c] + 1).toNat = (Lib.index l [c]).toNat + 1 := by omega
        rw [e1]
        simp only [List.take_succ_cons, List.length_singleton, List.drop_succ_cons]
theorem cutS_len (c : UInt8) : ∀ l : List UInt8, (cutS c l).1.length ≤ l.length ∧ (cutS c l).2.1.length ≤ l.length
  | [] => ⟨Nat.le_refl _, Nat.le_refl _⟩
  | b :: l => by
    have ih := cutS_len c l
    unfold cutS
    split
    · simp
    · simp only [List.length_cons]; omega

/-- The library's variable MaxLen holds a number. -/
def MaxV (w : World) : Prop := ∃ m : Int, w.cell? ⟨0, 0, none⟩ = some (.int .i64 m)
theorem MaxV.below {w w' : World} (h : MaxV w) (hb : Below w.heap.size w w') : MaxV w' := by
  obtain ⟨m, hm⟩ := h
  exact ⟨m, (hb.cell (p := ⟨0, 0, none⟩) (World.block_lt_of_cell? w _ hm)).trans hm⟩

/-- strings.Cut at one byte. -/
theorem cut_any (s : ByteArray) (c : UInt8) (x y : ByteArray) (b : Bool) (hx : x.data.toList = (cutS c s.data.toList).1) (hy : y.data.toList = (cutS c s.data.toList).2.1) (hb : b = (cutS c s.data.toList).2.2)
    (hs : s.size < 4294967281) (w : World) (hM : MaxV w) :
    Calls Tryz.prog 44 #[.string s, .string ⟨#[c]⟩] w fun e w' => e = .returned (.tuple #[.string x, .string y, .bool b]) ∧ Below w.heap.size w w' := by
  obtain ⟨m, hm⟩ := hM
  refine (Tryz.strings_Cut s ⟨#[c]⟩ m w hs hm).mono ?_
  rintro e w' ⟨rfl, n, rfl⟩
  have e : Lib.cut s.data.toList (⟨#[c]⟩ : ByteArray).data.toList = cutS c s.data.toList := cut_one c _
  refine ⟨?_, below_drewN (Below.refl _ _) n⟩
  rw [e, ← hx, ← hy, hb]

theorem value_any (s : ByteArray) (hs : s.size ≤ 1000000) (w : World) :
    Calls Tryz.prog 42 #[.string s] w fun e w' => e = .returned (.bool (allS chr s.data.toList)) ∧ Below w.heap.size w w' := by
  cases h : allS chr s.data.toList
  · have hc := hide (fun w => quote_no s hs h w)
    clear h
    go_enter Tryz.func42, Tryz.ntmps42
    go_wp2_with (go_at_call 63; refine (unhide hc _).mono ?_; rintro e w1 ⟨rfl, hb1⟩; have HB := hide hb1; clear hb1)
    go_ret
    exact ⟨rfl, unhide HB⟩
  · have hc := hide (fun w => quote_ok s hs h w)
    clear h
    go_enter Tryz.func42, Tryz.ntmps42
    go_wp2_with (go_at_call 63; refine (unhide hc _).mono ?_; rintro e w1 ⟨rfl, hb1⟩; have HB := hide hb1; clear hb1)
    go_ret
    exact ⟨rfl, unhide HB⟩

/-- may it be a field? -/
def chkS (f : Fld) : Bool := (tokenS f.1.data.toList && allS chr f.2.data.toList) && ((ofL (trimW f.2.data.toList)).toList == f.2.toList)
def errI (ok : Bool) : Int := if ok = true then 0 else 4

set_option maxRecDepth 100000 in
set_option maxHeartbeats 2000000 in
theorem check_any (x y : ByteArray) (hx : x.size ≤ 1000000) (hy : y.size ≤ 1000000) (w : World) :
    Calls Tryz.prog 12 #[.agg #[.string x, .string y]] w fun e w' => e = .returned (.int .i64 (errI (chkS (x, y)))) ∧ Below w.heap.size w w' := by
  have h1 := fun w => token_any x (by omega) w
  have h2 := fun w => value_any y hy w
  have h3 := fun w => trim_any y (by omega) w
  have hc : chkS (x, y) = ((tokenS x.data.toList && allS chr y.data.toList) && ((ofL (trimW y.data.toList)).toList == y.toList)) := rfl
  rw [hc]
  obtain ⟨z, hz⟩ : ∃ z, ofL (trimW y.data.toList) = z := ⟨_, rfl⟩
  obtain ⟨a, ha⟩ : ∃ a, tokenS x.data.toList = a := ⟨_, rfl⟩
  obtain ⟨b, hb⟩ : ∃ b, allS chr y.data.toList = b := ⟨_, rfl⟩
  rw [ha] at h1 ⊢
  rw [hb] at h2 ⊢
  rw [hz] at h3 ⊢
  have H1 := hide h1
  have H2 := hide h2
  have H3 := hide h3
  clear h1 h2 h3 hc hz ha hb
  go_enter Tryz.func12, Tryz.ntmps12
  go_upto_region 1 with fail
  have HH := Reg.Has.new w [.string x, .string y] 30
  have HB := hide ((Below.refl w.heap.size w).alloc (Nat.le_refl _) (.cells #[.string x, .string y] 30))
  generalize w.alloc (.cells #[.string x, .string y] 30) = w1 at HH HB ⊢
  have p1 := HH.cell 0 _ rfl; have q1 := HH.cell 1 _ rfl; have u1 := HH.free 0 (by simp); have v1 := HH.free 1 (by simp); have z1 := HH.lt
  clear HH
  cases a <;> cases b
  all_goals
    refine Reg.region_more (by kernel_rfl) (by kernel_rfl) ?_
    repeat (go_big_quiet_step ((first | (go_at_call 41; exact Reg.Calls.more (unhide H1 _)) | (go_at_call 42; exact Reg.Calls.more (unhide H2 _)) | (go_at_call 43; exact Reg.Calls.more (unhide H3 _)))))
    refine wpQuiet_nil ?_
    intro w9 hb9; obtain ⟨hc9, hf9, hz9⟩ := bcell hb9; (try simp at hz9)
    have HB9 := hide ((unhide HB).trans (hb9.mono (unhide HB).size))
    clear hb9 hc9 hf9
  · go_wp2_with fail
    go_ret
    exact ⟨rfl, unhide HB9⟩
  · go_wp2_with fail
    go_ret
    exact ⟨rfl, unhide HB9⟩
  · go_wp2_with fail
    go_ret
    exact ⟨rfl, unhide HB9⟩
  · cases hzy : (z.toList == y.toList)
    · go_wp2_with fail
      go_ret
      exact ⟨by rw [hzy] <;> rfl, unhide HB9⟩
    · go_wp2_with fail
      go_ret
      exact ⟨by rw [hzy] <;> rfl, unhide HB9⟩
end Go.Proofs.YtfohhhdebinikaaGreatDoor.Sp
