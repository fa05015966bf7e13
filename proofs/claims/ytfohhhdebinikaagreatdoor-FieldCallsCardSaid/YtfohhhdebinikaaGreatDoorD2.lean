/- The reference's Join and Get. -/
import Derived.Test.YtfohhhdebinikaaGreatDoorD1
namespace Go.Proofs.YtfohhhdebinikaaGreatDoor.Sp
open Go.RowKit Sl

theorem ofL_app (a b : List UInt8) : ofL (a ++ b) = ofL a ++ ofL b := by
  have h : (ofL a ++ ofL b).data.toList = a ++ b := app_data (ofL a) (ofL b)
  exact (ba_eq h).symm
theorem join_snoc (A : List ByteArray) (x : ByteArray) (h : A ≠ []) : joinB (A ++ [x]) = joinB A ++ ⟨#[44, 32]⟩ ++ x := by
  cases A with
  | nil => exact absurd rfl h
  | cons y t =>
    unfold joinB
    have e : Lib.join ((y :: t ++ [x]).map (·.data.toList)) [44, 32] = Lib.join ((y :: t).map (·.data.toList)) [44, 32] ++ ([44, 32] ++ x.data.toList) := by
      rw [List.cons_append, List.map_cons, List.map_cons, Lib.join_cons, Lib.join_cons, List.append_assoc]
      congr 1
      unfold Lib.joinTail
      simp
    rw [e, ofL_app, ofL_app, ByteArray.append_assoc]
    rfl
theorem take_ne_nil (A : List ByteArray) (k : Nat) (h : k ≤ A.length) (hk : 0 < k) : A.take k ≠ [] := by
  intro e
  have h1 : (A.take k).length = k := by rw [List.length_take]; omega
  rw [e] at h1
  simp at h1
  omega
theorem joinB_take (A : List ByteArray) (k : Nat) (h : k < A.length) : joinB (A.take (k + 1)) = (if 0 < k then joinB (A.take k) ++ ⟨#[44, 32]⟩ else joinB (A.take k)) ++ A[k] := by
  rw [List.take_succ_eq_append_getElem h]
  by_cases hk : 0 < k
  · rw [if_pos hk, join_snoc _ _ (take_ne_nil A k (by omega) hk)]
  · have h0 : k = 0 := by omega
    subst h0
    rw [if_neg (by omega), List.take_zero, List.nil_append]
    show ofL (Lib.join [A[0].data.toList] [44, 32]) = ofL (Lib.join [] [44, 32]) ++ A[0]
    rw [Lib.join_one, Lib.join_nil, ofL_of]
    have h : (ofL [] ++ A[0]).data.toList = A[0].data.toList := by rw [app_data]; rfl
    rw [ba_eq h]
theorem joinB_size (A : List ByteArray) (hl : A.length ≤ 100) (h : ∀ x ∈ A, x.size ≤ 2000) : (joinB A).size ≤ 300000 := by
  unfold joinB
  rw [show (ofL (Lib.join (A.map (·.data.toList)) [44, 32])).size = (Lib.join (A.map (·.data.toList)) [44, 32]).length from size_list rfl]
  exact join_size A hl h

set_option maxHeartbeats 1000000 in
theorem rjoin_any (v : Value) (A : List ByteArray) (hl : A.length ≤ 100) (h : ∀ x ∈ A, x.size ≤ 2000) (w : World) (hv : Rd w v A.length 1 (strV A)) :
    Calls Tryz.prog 58 #[v] w fun e w' => e = .returned (.string (joinB A)) ∧ w = w' := by
  obtain ⟨ao, cap, rfl⟩ := hv.form
  have HV := hide hv
  have HS := hide h
  clear hv h
  go_enter Tryz.func58, Tryz.ntmps58
  go_wp2_with fail
  go_loop [3, 4] (fun o i => ∃ k : Nat, i = .int .i64 k ∧ k ≤ A.length ∧ o = .string (joinB (A.take k))) (fun _ i => A.length - (intOf i).toNat)
  case atStart => exact ⟨0, rfl, Nat.zero_le _, rfl⟩
  case round =>
    obtain ⟨k, rfl, hk, rfl⟩ := hrel
    rcases Nat.lt_or_ge k A.length with hlt | hge
    · obtain ⟨b, off, rfl, hb, c1⟩ := str_cell (unhide HV) k hlt
      have hx := (unhide HS) A[k] (List.getElem_mem _)
      have hj := joinB_size (A.take k) (by rw [List.length_take]; omega) (fun x hx => (unhide HS) x (List.mem_of_mem_take hx))
      have HT := Lib.hid (joinB_take A k hlt)
      obtain ⟨o, ho⟩ : ∃ o, joinB (A.take k) = o := ⟨_, rfl⟩
      rw [ho] at hj ⊢
      have HO := Lib.hid ho
      clear ho
      rcases Nat.eq_zero_or_pos k with h0 | h0
      · have hnp : ¬ 0 < k := by omega
        have H0 := Lib.hid h0
        clear h0
        go_wp2_with fail
        go_round
        case rel => exact ⟨k + 1, by go_num, by omega, by rw [HT.out, if_neg hnp, HO.out] <;> rfl⟩
        case measure => simp [intOf]; omega
      · go_wp2_with fail
        go_round
        case rel => exact ⟨k + 1, by go_num, by omega, by rw [HT.out, if_pos h0, HO.out] <;> rfl⟩
        case measure => simp [intOf]; omega
    · have hT : A.take k = A := List.take_of_length_le hge
      have HT := Lib.hid hT
      clear hT
      go_wp2_with fail
      go_ret
      exact ⟨by rw [HT.out] <;> rfl, rfl⟩
end Go.Proofs.YtfohhhdebinikaaGreatDoor.Sp
