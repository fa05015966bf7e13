/- Lemmas for the statement's proof, several texts in one: P1, Sz, P2, P3, K2, P5, P6. -/
import Derived.Test.YtkaaeajidejchaaGreatDoorZ05
import Derived.Test.YtkaaeajidejchaaGreatDoorZ03
import Derived.Test.YtkaaeajidejchaaGreatDoorZ02
import Derived.Test.YtkaaeajidejchaaGreatDoorZ01
set_option linter.unusedVariables false
set_option linter.unusedSimpArgs false
/- The decoder: eat, take. -/
section
namespace Go.Proofs.YtkaaeajidejchaaGreatDoor.Sp
open Go.RowKit Sl

/-- a flaw, as a panic -/
def flawE (n : Nat) : Ending := .panicked [{ v := .iface 59 (.int .i64 n), recovered := false }]
/-- eat's end -/
def eatE (r : Nat × Bool) (e : Ending) : Prop := e = if r.1 ≠ 0 then flawE r.1 else .returned (.bool r.2)
theorem own_some {w : World} {base n : Nat} {v : Value} {L : List UInt8} (h : w.ownsRow base 5 1 v n (Mem.bytesV L)) (hL : L ≠ []) :
    ∃ g cp, v = .slice (some ⟨g, 0, none⟩) n cp ∧ n ≤ cp ∧ ∀ i (hi : i < L.length), w.cell? ⟨g, i, none⟩ = some (.int .u8 L[i].toNat) := by
  obtain ⟨ao, cp, rfl, hcp, _, hl, hc⟩ := Rd.own h
  obtain ⟨g, off, rfl, _, hcc⟩ := hc (by intro e; have := congrArg List.length e; rw [Mem.bytesV_len] at this; exact hL (List.eq_nil_of_length_eq_zero this))
  obtain rfl : off = 0 := by
    rcases h.2 with ⟨e, _⟩ | ⟨g', _, _, e, _⟩ <;> simp at e
    exact e.1.2
  refine ⟨g, cp, rfl, hcp, fun i hi => ?_⟩
  have := hcc i _ (Mem.bytesV_get L i hi)
  rwa [Nat.zero_add] at this
theorem own_cell {w : World} {base g n cp m : Nat} {L : List UInt8} (h : w.ownsRow base 5 1 (.slice (some ⟨g, 0, none⟩) n cp) m (Mem.bytesV L)) (i : Nat) (hi : i < L.length) : w.cell? ⟨g, i, none⟩ = some (.int .u8 L[i].toNat) := by
  have := h.cells (g := g) rfl i _ (Mem.bytesV_get L i hi)
  rwa [Addr.add_mid, Nat.zero_add] at this

set_option maxRecDepth 100000 in
set_option maxHeartbeats 2000000 in
theorem eat_any (w : World) (base b : Nat) (nx : Value) (d : Dec) (ln bd tr : Value) (c : UInt8) (h : DecAt w base b nx d ln bd tr) (hl : d.line.length ≤ 1000000) (hbase : base ≤ w.heap.size) :
    Calls Tryz.prog 41 #[.pointer (some ⟨b, 0, none⟩), .int .u8 c.toNat] w fun e w' => eatE (eatS d.L d.line c) e ∧ ∃ ln', DecAt w' base b nx { d with line := d.line ++ [c] } ln' bd tr ∧ Moves b w ln bd tr w' ln' bd tr := by
  have HD := hide h
  have p5 := h.has.cell 5 _ rfl
  have u5 := h.has.free 5 (by simp [decV])
  have zb := h.has.lt
  have HA := hide (h.alloc (.cells #[.int .u8 c.toNat] 5))
  obtain ⟨k, hk⟩ : ∃ k, d.line.length = k := ⟨_, rfl⟩
  rw [hk] at hl
  have HK := Lib.hid hk
  clear h hk
  go_enter Tryz.func41, Tryz.ntmps41
  go_upto_region 2 with (refine wpList_pushBAt rfl _ _ rfl base ln d.line k HK.out rfl (unhide HD).line c rfl _ rfl hl hbase ?_; intro ln' w1 h2 hg hat; obtain ⟨g, cp, rfl, hcp, hcl⟩ := own_some h2 (by simp); have HS := hide ((unhide HA).setLine (d.line ++ [c]) hg (by rw [List.length_append, HK.out]; exact h2) hat); have q5 := ((unhide HA).has_line hg).cell 5 _ rfl; have v5 := ((unhide HA).has_line hg).free 5 (by simp [decV]); clear h2 hg hat)
  obtain ⟨HD2, HM2⟩ := unhide HS
  have HM3 := hide (Moves.after ((Below.refl _ _).alloc (Nat.le_refl _) _) HM2)
  clear HS q5 v5 hcl HM2 HA HD p5 u5
  have p0 := HD2.has.cell 0 _ rfl
  have p5 := HD2.has.cell 5 _ rfl
  have hcl := fun i (hi : i < d.line.length) => own_cell HD2.line i (by simp; omega)
  have HE := hide HD2
  clear HD2
  generalize w1.setCell ⟨b, 5, none⟩ _ = w2 at HE HM3 p0 p5 hcl ⊢
  simp only at p0 p5
  clear hcp hbase zb
  by_cases g1 : d.L < k + 1
  · have he : eatS d.L d.line c = (400, false) := by unfold eatS; rw [if_pos (by rw [HK.out]; exact g1)]
    have HQ := Lib.hid he
    have g2 : (d.L : Int) < (k : Int) + 1 := by omega
    clear he hcl g1
    go_wp2_with fail
    exact ⟨rfl, by unfold eatE; rw [HQ.out]; rfl, _, unhide HE, unhide HM3⟩
  · have g2 : ¬ (d.L : Int) < (k : Int) + 1 := by omega
    rcases Nat.eq_zero_or_pos k with h0 | h0
    · have h1 : d.line = [] := List.eq_nil_of_length_eq_zero (by rw [HK.out, h0])
      have k1 : ¬ (1 : Int) < (k : Int) + 1 := by omega
      have k2 : decide ((1 : Int) < (k : Int) + 1) = false := decide_eq_false k1
      clear hcl h0
      by_cases hc : c = 10
      · have c1 : ((c.toNat : Int) == 10) = true := by rw [hc]; rfl
        have HQ := Lib.hid (show eatS d.L d.line c = (400, false) by unfold eatS; rw [if_neg (by rw [HK.out]; exact g1), h1, hc]; rfl)
        clear hc h1 g1
        go_wp2_with fail
        exact ⟨rfl, by unfold eatE; rw [HQ.out]; rfl, _, unhide HE, unhide HM3⟩
      · have c1 : ((c.toNat : Int) == 10) = false := by
          rw [beq_eq_false_iff_ne]; intro e; exact hc (u8_eq (n := 10) e)
        by_cases g3 : d.L ≤ k + 1
        · have g4 : (d.L : Int) ≤ (k : Int) + 1 := by omega
          have HQ := Lib.hid (show eatS d.L d.line c = (400, false) by unfold eatS; rw [if_neg (by rw [HK.out]; exact g1), h1, if_neg (by simp [hc]), if_neg hc, if_pos (by rw [← h1, HK.out]; exact g3)])
          clear hc h1 g1 g3
          go_wp2_with fail
          exact ⟨rfl, by unfold eatE; rw [HQ.out]; rfl, _, unhide HE, unhide HM3⟩
        · have g4 : ¬ (d.L : Int) ≤ (k : Int) + 1 := by omega
          have HQ := Lib.hid (show eatS d.L d.line c = (0, false) by unfold eatS; rw [if_neg (by rw [HK.out]; exact g1), h1, if_neg (by simp [hc]), if_neg hc, if_neg (by rw [← h1, HK.out]; exact g3)])
          clear hc h1 g1 g3
          go_wp2_with fail
          go_ret
          exact ⟨by unfold eatE; rw [HQ.out]; rfl, _, unhide HE, unhide HM3⟩
    · obtain ⟨j, rfl⟩ : ∃ j, k = j + 1 := ⟨k - 1, by omega⟩
      have hj : j < d.line.length := by rw [HK.out]; omega
      have hx := hcl j hj
      rw [List.getElem_append_left hj] at hx
      have hlast : d.line.getLast? = some d.line[j] := by rw [List.getLast?_eq_getElem?, HK.out, Nat.add_sub_cancel, List.getElem?_eq_getElem hj]
      obtain ⟨x, hxx⟩ : ∃ x, d.line[j] = x := ⟨_, rfl⟩
      rw [hxx] at hx hlast
      have k1 : (1 : Int) < ((j + 1 : Nat) : Int) + 1 := by omega
      have k2 : decide ((1 : Int) < ((j + 1 : Nat) : Int) + 1) = true := decide_eq_true k1
      have k3 : (1 : Int) < (j : Int) + 1 + 1 := by omega
      have k4 : decide ((1 : Int) < (j : Int) + 1 + 1) = true := decide_eq_true k3
      have k5 : ((j : Int) + 1 + 1) - 2 = (j : Int) := by omega
      have k6 : (((j + 1 : Nat) : Int) + 1) - 2 = (j : Int) := by omega
      have k7 : (0 : Int) ≤ (j : Int) ∧ (j : Int) < (j : Int) + 1 + 1 := by omega
      have g5 : ¬ (d.L : Int) < (j : Int) + 1 + 1 := by omega
      clear hcl h0 hxx hj
      by_cases hx13 : x = 13
      · have x1 : ((x.toNat : Int) == 13) = true := by rw [hx13]; rfl
        by_cases hc : c = 10
        · have c1 : ((c.toNat : Int) == 10) = true := by rw [hc]; rfl
          have HQ := Lib.hid (show eatS d.L d.line c = (0, true) by unfold eatS; rw [if_neg (by rw [HK.out]; exact g1), hlast, hx13, hc]; rfl)
          clear hc hlast g1 hx13
          go_wp2_with fail
          go_ret
          exact ⟨by unfold eatE; rw [HQ.out]; rfl, _, unhide HE, unhide HM3⟩
        · have c1 : ((c.toNat : Int) == 10) = false := by
            rw [beq_eq_false_iff_ne]; intro e; exact hc (u8_eq (n := 10) e)
          have HQ := Lib.hid (show eatS d.L d.line c = (400, false) by unfold eatS; rw [if_neg (by rw [HK.out]; exact g1), hlast, hx13, if_pos (by simp [hc])])
          clear hc hlast g1 hx13
          go_wp2_with fail
          exact ⟨rfl, by unfold eatE; rw [HQ.out]; rfl, _, unhide HE, unhide HM3⟩
      · have x1 : ((x.toNat : Int) == 13) = false := by
          rw [beq_eq_false_iff_ne]; intro e; exact hx13 (u8_eq (n := 13) e)
        by_cases hc : c = 10
        · have c1 : ((c.toNat : Int) == 10) = true := by rw [hc]; rfl
          have HQ := Lib.hid (show eatS d.L d.line c = (400, false) by unfold eatS; rw [if_neg (by rw [HK.out]; exact g1), hlast, if_pos (by simp [hc, hx13])])
          clear hc hlast g1 hx13
          go_wp2_with fail
          exact ⟨rfl, by unfold eatE; rw [HQ.out]; rfl, _, unhide HE, unhide HM3⟩
        · have c1 : ((c.toNat : Int) == 10) = false := by
            rw [beq_eq_false_iff_ne]; intro e; exact hc (u8_eq (n := 10) e)
          by_cases g3 : d.L ≤ j + 1 + 1
          · have g4 : (d.L : Int) ≤ (j : Int) + 1 + 1 := by omega
            have HQ := Lib.hid (show eatS d.L d.line c = (400, false) by unfold eatS; rw [if_neg (by rw [HK.out]; exact g1), hlast, if_neg (by rw [show (c == 10) = false by simp [hc], show ((some x : Option UInt8) == some 13) = false by simp [hx13]]; decide), if_neg hc, if_pos (by rw [HK.out]; exact g3)])
            clear hc hlast g1 hx13 g3
            go_wp2_with fail
            exact ⟨rfl, by unfold eatE; rw [HQ.out]; rfl, _, unhide HE, unhide HM3⟩
          · have g4 : ¬ (d.L : Int) ≤ (j : Int) + 1 + 1 := by omega
            have HQ := Lib.hid (show eatS d.L d.line c = (0, false) by unfold eatS; rw [if_neg (by rw [HK.out]; exact g1), hlast, if_neg (by rw [show (c == 10) = false by simp [hc], show ((some x : Option UInt8) == some 13) = false by simp [hx13]]; decide), if_neg hc, if_neg (by rw [HK.out]; exact g3)])
            clear hc hlast g1 hx13 g3
            go_wp2_with fail
            go_ret
            exact ⟨by unfold eatE; rw [HQ.out]; rfl, _, unhide HE, unhide HM3⟩

set_option maxRecDepth 100000 in
set_option maxHeartbeats 2000000 in
theorem take_any (w : World) (base b : Nat) (nx : Value) (d : Dec) (ln bd tr : Value) (x : List UInt8) (c1 c2 : UInt8) (h : DecAt w base b nx d ln bd tr) (hx : d.line = x ++ [c1, c2]) (hl : x.length ≤ 1000000) :
    Calls Tryz.prog 42 #[.pointer (some ⟨b, 0, none⟩)] w fun e w' => e = .returned (.string ⟨x.toArray⟩) ∧ DecAt w' base b nx { d with line := [] } (.slice none 0 0) bd tr ∧ Moves b w ln bd tr w' (.slice none 0 0) bd tr := by
  have HD := hide h
  have hlen : d.line.length = x.length + 2 := by rw [hx]; simp
  have hli := h.line
  rw [hlen, hx] at hli
  obtain ⟨g, cp, rfl, hcp, hcl⟩ := own_some hli (by simp)
  have p5 := h.has.cell 5 _ rfl
  have u5 := h.has.free 5 (by simp [decV])
  have zb := h.has.lt
  have hcv : ∀ y : Reg.More w, (convert 56 9 (.slice (some ⟨g, 0, none⟩) x.length cp)).run Tryz.prog y.w = .ok (.string ⟨x.toArray⟩) y.w := fun y => by
    refine Mem.run_text 56 5 9 Tryz.underlying56 Tryz.underlying5 Tryz.underlying9 g 0 cp x (fun i v hv => ?_)
    have hi : i < x.length := by
      rcases Nat.lt_or_ge i x.length with h | h
      · exact h
      · rw [List.getElem?_eq_none (by rw [Mem.bytesV_len]; exact h)] at hv; cases hv
    rw [Mem.bytesV_get x i hi] at hv
    cases hv
    have h1 := hcl i (by simp; omega)
    rw [List.getElem_append_left hi] at h1
    rw [Nat.zero_add, y.cell g i (World.block_lt_of_cell? w _ h1)]
    exact h1
  obtain ⟨k, hk⟩ : ∃ k, x.length = k := ⟨_, rfl⟩
  rw [hk] at p5 hcv hl hcp
  have hcp1 : (k : Int) ≤ cp := by omega
  clear h hx hli hcl hlen
  go_enter Tryz.func42, Tryz.ntmps42
  go_wp2_with fail
  refine Reg.region_more (by kernel_rfl) (by kernel_rfl) ?_
  repeat (go_big_quiet_step (fail))
  refine wpQuiet_nil ?_
  intro w1 hb1; obtain ⟨hc1, hf1, hz1⟩ := bcell hb1; (try simp at hz1)
  have HD1 := hide ((unhide HD).call hb1)
  have q5 := (unhide HD1).has.cell 5 _ rfl
  have v5 := (unhide HD1).has.free 5 (by simp [decV])
  have HB := hide hb1
  clear hb1 hc1 hf1 p5 u5 hcv
  go_wp2_with fail
  go_ret
  obtain ⟨h1, h2⟩ := (unhide HD1).noLine
  exact ⟨rfl, h1, Moves.after (unhide HB) h2⟩
end Go.Proofs.YtkaaeajidejchaaGreatDoor.Sp
end

/- Plain: the size of a size line. -/
section
namespace Go.Proofs.YtkaaeajidejchaaGreatDoor.Sp
open Go.RowKit

/-- a digit by sixteen; its number -/
def hexB (c : UInt8) : Bool := (48 ≤ c.toNat && c.toNat ≤ 57) || (97 ≤ c.toNat && c.toNat ≤ 102) || (65 ≤ c.toNat && c.toNat ≤ 70)
def hexV (c : UInt8) : Nat := if c.toNat ≤ 57 then c.toNat - 48 else if c.toNat ≤ 70 then c.toNat - 55 else c.toNat - 87
theorem hexV_lt (c : UInt8) (h : hexB c = true) : hexV c < 16 := by
  unfold hexB at h; unfold hexV
  simp only [Bool.or_eq_true, Bool.and_eq_true, decide_eq_true_eq] at h
  split
  · omega
  · split <;> omega
/-- how many digits a text begins with -/
def hexP : List UInt8 → Nat
  | [] => 0
  | c :: t => if hexB c = true then hexP t + 1 else 0
theorem hexP_le : ∀ l : List UInt8, hexP l ≤ l.length
  | [] => Nat.le_refl _
  | c :: t => by
    unfold hexP
    split
    · have := hexP_le t; simp only [List.length_cons]; omega
    · exact Nat.zero_le _
theorem hexP_all : ∀ l : List UInt8, (l.take (hexP l)).all hexB = true
  | [] => rfl
  | c :: t => by
    unfold hexP
    split
    · rename_i h
      rw [List.take_succ_cons, List.all_cons, h, hexP_all t]; rfl
    · rfl
theorem hexP_app : ∀ (x y : List UInt8), x.all hexB = true → hexP (x ++ y) = x.length + hexP y
  | [], y, _ => by simp
  | c :: t, y, h => by
    rw [List.all_cons, Bool.and_eq_true] at h
    rw [List.cons_append, hexP, if_pos h.1, hexP_app t y h.2, List.length_cons]; omega
/-- a number by sixteen -/
def hexN (l : List UInt8) : Nat := l.foldl (fun n c => n * 16 + hexV c) 0
theorem hexN_snoc (l : List UInt8) (c : UInt8) : hexN (l ++ [c]) = hexN l * 16 + hexV c := by simp [hexN]
theorem hexN_lt : ∀ (k : Nat) (l : List UInt8), l.length = k → l.all hexB = true → hexN l < 16 ^ k := by
  intro k
  induction k with
  | zero => intro l h _; rw [List.eq_nil_of_length_eq_zero h]; decide
  | succ k ih =>
    intro l h ha
    obtain ⟨x, c, rfl⟩ : ∃ x c, l = x ++ [c] := ⟨l.dropLast, l.getLast (by intro e; rw [e] at h; simp at h), (List.dropLast_concat_getLast _).symm⟩
    rw [List.all_append, Bool.and_eq_true] at ha
    have h1 := ih x (by simpa using h) ha.1
    have h2 := hexV_lt c (by simpa using ha.2)
    rw [hexN_snoc, Nat.pow_succ]
    omega
def sizeK (l : List UInt8) : Bool := decide (hexP l < 1 ∨ 16 < hexP l) || (!(l.drop (hexP l)).isEmpty && !((l.drop (hexP l)).head? == some 59 && allS chr (l.drop (hexP l))))
/-- a size line's number, its status -/
def sizeF (l : List UInt8) : Nat × Nat :=
  if sizeK l = true then (0, 400)
  else if 9007199254740991 < hexN (l.take (hexP l)) then (0, 413) else (hexN (l.take (hexP l)), 0)
theorem sizeF_le (l : List UInt8) : (sizeF l).1 ≤ 9007199254740991 := by
  unfold sizeF
  split
  · exact Nat.zero_le _
  · split
    · exact Nat.zero_le _
    · simp only; omega
end Go.Proofs.YtkaaeajidejchaaGreatDoor.Sp
end

/- Digits by sixteen, their numbers: chunk.hex, the reference's hex, strconv.ParseUint at base 16. -/
section
namespace Go.Proofs.YtkaaeajidejchaaGreatDoor.Sp
open Go.RowKit Sl

def hexI (c : Int) : Bool := decide ((48 ≤ c ∧ c ≤ 57) ∨ (97 ≤ c ∧ c ≤ 102) ∨ (65 ≤ c ∧ c ≤ 70))
theorem hexI_B (c : UInt8) : hexI c.toNat = hexB c := by
  have := byte_all (fun c => hexI c.toNat == hexB c) (by decide +kernel) c
  simpa using this
theorem hex_I (c : Int) (w : World) : Calls Tryz.prog 29 #[.int .u8 c] w fun e w' => e = .returned (.bool (hexI c)) ∧ w = w' := by
  go_enter Tryz.func29, Tryz.ntmps29
  go_wp2
  all_goals go_ret
  all_goals exact ⟨ret_bool (by unfold hexI; (first | (with_reducible refine dec_t ?_; omega) | (with_reducible refine dec_f ?_; omega) | (with_reducible refine dec_d ?_; omega) | (with_reducible refine dec_e ?_; omega) | (with_reducible refine dec_n ?_; omega) | (with_reducible refine dec_nd ?_; omega))), rfl⟩
theorem hex_any (c : UInt8) (w : World) : Calls Tryz.prog 29 #[.int .u8 c.toNat] w fun e w' => e = .returned (.bool (hexB c)) ∧ w = w' := by
  have := hex_I c.toNat w
  rwa [hexI_B] at this

def lwN (c : UInt8) : Nat := (bits BinOp.or IntKind.u8 c.toNat 32).toNat
theorem lwN_eq (c : UInt8) : bits BinOp.or IntKind.u8 c.toNat 32 = (lwN c : Int) := by
  have := byte_all (fun c => bits BinOp.or IntKind.u8 c.toNat 32 == (lwN c : Int)) (by decide +kernel) c
  simpa using this
theorem lower1_any (c : UInt8) (w : World) : Calls Tryz.prog 62 #[.int .u8 c.toNat] w fun e w' => e = .returned (.int .u8 (lwN c)) ∧ w = w' := by
  have h := lwN_eq c
  go_enter Tryz.func62, Tryz.ntmps62
  go_wp2
  go_ret
  exact ⟨rfl, rfl⟩
theorem hex_cases (c : UInt8) (h : hexB c = true) : (48 ≤ c.toNat ∧ c.toNat ≤ 57 ∧ c.toNat = 48 + hexV c) ∨ (¬ c.toNat ≤ 57 ∧ c.toNat ≠ 95 ∧ 97 ≤ lwN c ∧ lwN c ≤ 102 ∧ lwN c = 87 + hexV c) := by
  have := byte_all (fun c => !hexB c || decide ((48 ≤ c.toNat ∧ c.toNat ≤ 57 ∧ c.toNat = 48 + hexV c) ∨ (¬ c.toNat ≤ 57 ∧ c.toNat ≠ 95 ∧ 97 ≤ lwN c ∧ lwN c ≤ 102 ∧ lwN c = 87 + hexV c))) (by decide +kernel) c
  rw [h] at this
  simpa using this
theorem hexN_take (s : ByteArray) (j : Nat) (h : j < s.size) : hexN (s.data.toList.take (j + 1)) = hexN (s.data.toList.take j) * 16 + hexV s[j] := by
  rw [List.take_succ_eq_append_getElem (by simpa using h), hexN_snoc]
  rfl

set_option maxRecDepth 100000 in
set_option maxHeartbeats 4000000 in
theorem puint_in (s : ByteArray) (h0 : 0 < s.size) (hs : s.size ≤ 16) (ha : s.data.toList.all hexB = true) (w : World) :
    Calls Tryz.prog 48 #[.string s, .int .i64 16, .int .i64 64] w fun e w' => e = .returned (.tuple #[.int .u64 (hexN s.data.toList), .nilIface]) ∧ Below w.heap.size w w' := by
  have hem : s.toList.isEmpty = false := by
    rcases empty_case s with ⟨_, h⟩ | ⟨h, _⟩
    · have h2 := congrArg List.length h
      rw [Array.length_toList] at h2
      have h3 : s.size = 0 := h2
      omega
    · exact h
  have HA := Lib.hid ha
  clear ha
  have e1 : IntKind.u64.wrap 18446744073709551616 = 0 := by kernel_rfl
  have e2 : IntKind.u64.wrap (-1) = 18446744073709551615 := by kernel_rfl
  go_enter Tryz.func48, Tryz.ntmps48
  go_wp2_with (refine Mem.wpList_bytes rfl 9 56 5 _ rfl _ rfl Tryz.underlying9 Tryz.underlying56 Tryz.underlying5 ?_; intro cap w1 HB hb)
  have hcell := fun j (hj : j < s.size) => HB.cell j _ (Mem.bytesV_get s.data.toList j (by simpa using hj))
  have HBe := hide hb
  clear HB hb e1 e2
  go_loop [12, 13, 101] (fun u n i => ∃ j : Nat, j ≤ s.size ∧ i = .int .i64 j ∧ n = .int .u64 (hexN (s.data.toList.take j)) ∧ u = .bool false) (fun u n i => s.size - (intOf i).toNat)
  case atStart => exact ⟨0, Nat.zero_le _, rfl, rfl, rfl⟩
  case round =>
    obtain ⟨j, hj, rfl, rfl, rfl⟩ := hrel
    rcases Nat.lt_or_ge j s.size with hlt | hge
    · have hc : w1.cell? ⟨w.heap.size, j, none⟩ = some (.int .u8 s[j].toNat) := hcell j hlt
      have hnx := Lib.hid (hexN_take s j hlt)
      have hhx : hexB s[j] = true := List.all_eq_true.1 HA.out _ (by exact List.getElem_mem _)
      have hlt2 : hexN (s.data.toList.take j) < 16 ^ j := hexN_lt j _ (by simp; omega) (List.all_eq_true.2 fun c hc => List.all_eq_true.1 HA.out c (List.mem_of_mem_take hc))
      have hm : hexN (s.data.toList.take j) < 1152921504606846976 := Nat.lt_of_lt_of_le hlt2 (Nat.le_trans (Nat.pow_le_pow_right (by decide) (show j ≤ 15 by omega)) (by decide))
      have hv := hexV_lt _ hhx
      have hcs := hex_cases _ hhx
      have hlw := hide (lower1_any s[j])
      generalize s[j] = c at *
      generalize hexN (s.data.toList.take j) = m at *
      generalize hexV c = v at *
      clear hlt2 hcell hhx
      have hmI : (m : Int) < 1152921504606846976 := by omega
      have HMI := hide hmI
      clear hm hmI
      rcases hcs with ⟨c1, c2, c3⟩ | ⟨c1, c2, c3, c4, c5⟩
      · have d1 : (48 : Int) ≤ c.toNat ∧ (c.toNat : Int) ≤ 57 := by omega
        have d2 : ((c.toNat : Int) == 95) = false := by rw [beq_eq_false_iff_ne]; omega
        have d3 : (c.toNat : Int) - 48 = v := by omega
        clear c1 c2 c3
        go_upto_region 46 with fail
        have v1 : ¬ (16 : Int) ≤ v := by omega
        clear d1 d2 d3 hv hc
        generalize Value.int IntKind.u8 (c.toNat : Int) = cv
        clear hlw
        go_upto_region 48 with fail
        obtain ⟨M, hM⟩ : ∃ M, m * 16 = M := ⟨_, rfl⟩
        obtain ⟨R, hR⟩ : ∃ R, M + v = R := ⟨_, rfl⟩
        have hm' := unhide HMI
        have HR := Lib.hid (show hexN (List.take (j + 1) s.data.toList) = R by rw [hnx.out, hM, hR])
        have k1 : ¬ (1152921504606846976 : Int) ≤ m := by omega
        have f1 : IntKind.u64.wrap ((m : Int) * 16) = (M : Int) := by rw [IntKind.wrap_u64]; omega
        have f2 : IntKind.u64.wrap ((M : Int) + v) = (R : Int) := by rw [IntKind.wrap_u64]; omega
        have f3 : (M : Int) + v = R := by omega
        have k2 : ¬ (R : Int) < M := by omega
        have k3 : ¬ (18446744073709551615 : Int) < R := by omega
        clear hm' hM hR HMI v1 hnx
        go_wp2_with fail
        exact ⟨⟨j + 1, by omega, by go_num, by rw [HR.out], rfl⟩, by simp [intOf]; omega⟩
      · have d1 : (48 : Int) ≤ c.toNat := by omega
        have d0 : ¬ (c.toNat : Int) ≤ 57 := by omega
        have d2 : ((c.toNat : Int) == 95) = false := by rw [beq_eq_false_iff_ne]; omega
        obtain ⟨l, hl⟩ : ∃ l, lwN c = l := ⟨_, rfl⟩
        rw [hl] at hlw c3 c4 c5
        obtain ⟨b, hb⟩ : ∃ b, l - 97 = b := ⟨_, rfl⟩
        have l1 : (97 : Int) ≤ l := by omega
        have l2 : (l : Int) ≤ 122 := by omega
        have l3 : (l : Int) - 97 = b := by omega
        have l4 : (b : Int) + 10 = v := by omega
        clear c1 c2 c3 c4 c5 hl hb
        go_upto_region 46 with (go_at_call 62; refine (unhide hlw _).mono ?_; rintro e w' ⟨rfl, rfl⟩)
        have v1 : ¬ (16 : Int) ≤ v := by omega
        clear d0 d1 d2 l1 l2 l3 l4 hv hc hlw
        go_upto_region 48 with fail
        obtain ⟨M, hM⟩ : ∃ M, m * 16 = M := ⟨_, rfl⟩
        obtain ⟨R, hR⟩ : ∃ R, M + v = R := ⟨_, rfl⟩
        have hm' := unhide HMI
        have HR := Lib.hid (show hexN (List.take (j + 1) s.data.toList) = R by rw [hnx.out, hM, hR])
        have k1 : ¬ (1152921504606846976 : Int) ≤ m := by omega
        have f1 : IntKind.u64.wrap ((m : Int) * 16) = (M : Int) := by rw [IntKind.wrap_u64]; omega
        have f2 : IntKind.u64.wrap ((M : Int) + v) = (R : Int) := by rw [IntKind.wrap_u64]; omega
        have f3 : (M : Int) + v = R := by omega
        have k2 : ¬ (R : Int) < M := by omega
        have k3 : ¬ (18446744073709551615 : Int) < R := by omega
        clear hm' hM hR HMI v1 hnx
        go_wp2_with fail
        exact ⟨⟨j + 1, by omega, by go_num, by rw [HR.out], rfl⟩, by simp [intOf]; omega⟩
    · have hje : j = s.size := by omega
      have hF := Lib.hid (show s.data.toList.take j = s.data.toList by rw [hje]; exact List.take_of_length_le (by simp))
      have hji : ¬ (j : Int) < s.size := by omega
      clear hcell hj hge hje
      go_wp2_with fail
      go_ret2
      exact ⟨by rw [hF.out]; rfl, unhide HBe⟩

set_option maxRecDepth 100000 in
theorem puint_any (s : ByteArray) (h0 : 0 < s.size) (hs : s.size ≤ 16) (ha : s.data.toList.all hexB = true) (w : World) :
    Calls Tryz.prog 31 #[.string s, .int .i64 16, .int .i64 64] w fun e w' => e = .returned (.tuple #[.int .u64 (hexN s.data.toList), .nilIface]) ∧ Below w.heap.size w w' := by
  have h := hide (puint_in s h0 hs ha w)
  clear h0 hs ha
  go_enter Tryz.func31, Tryz.ntmps31
  go_wp2_with (go_at_call 48; refine (unhide h).mono ?_; rintro e w' ⟨rfl, hb⟩)
  go_ret2
  exact ⟨rfl, hb⟩
end Go.Proofs.YtkaaeajidejchaaGreatDoor.Sp
end

/- The size of a size line: chunk.Size. -/
section
namespace Go.Proofs.YtkaaeajidejchaaGreatDoor.Sp
open Go.RowKit Sl

def sizeE (l : List UInt8) (e : Ending) : Prop := e = .returned (.tuple #[.int .i64 (sizeF l).1, .int .i64 (sizeF l).2])
theorem hexP_at (s : ByteArray) (k : Nat) (h : k < s.size) : hexP (s.data.toList.drop k) = if hexB s[k] = true then hexP (s.data.toList.drop (k + 1)) + 1 else 0 := by
  rw [drop_cons s k h, hexP]
theorem sizeF_bad1 {l : List UInt8} (h : hexP l < 1 ∨ 16 < hexP l) : sizeF l = (0, 400) := by
  unfold sizeF sizeK
  rw [if_pos (by rw [decide_eq_true h]; rfl)]
theorem sizeF_bad2 {l : List UInt8} (hne : l.drop (hexP l) ≠ []) (h : (l.drop (hexP l)).head? ≠ some 59 ∨ allS chr (l.drop (hexP l)) = false) : sizeF l = (0, 400) := by
  unfold sizeF sizeK
  have h1 : (l.drop (hexP l)).isEmpty = false := by rw [List.isEmpty_eq_false_iff]; exact hne
  have h2 : ((l.drop (hexP l)).head? == some 59 && allS chr (l.drop (hexP l))) = false := by
    rcases h with h | h
    · rw [show ((l.drop (hexP l)).head? == some 59) = false by simpa using h]; rfl
    · rw [h, Bool.and_false]
  rw [if_pos (by rw [h1, h2]; simp)]
theorem sizeF_good {l : List UInt8} (h1 : ¬ (hexP l < 1 ∨ 16 < hexP l)) (h3 : l.drop (hexP l) = [] ∨ ((l.drop (hexP l)).head? = some 59 ∧ allS chr (l.drop (hexP l)) = true)) :
    sizeF l = if 9007199254740991 < hexN (l.take (hexP l)) then (0, 413) else (hexN (l.take (hexP l)), 0) := by
  have h : sizeK l = false := by
    unfold sizeK
    rw [decide_eq_false h1, Bool.false_or]
    rcases h3 with h | ⟨h, h'⟩
    · rw [h]; rfl
    · rw [h, h']; simp
  unfold sizeF
  rw [h, if_neg (by simp)]

set_option maxRecDepth 100000 in
set_option maxHeartbeats 4000000 in
theorem size_any (s : ByteArray) (hs : s.size ≤ 1000000) (w : World) :
    Calls Tryz.prog 18 #[.string s] w fun e w' => sizeE s.data.toList e ∧ Below w.heap.size w w' := by
  go_enter Tryz.func18, Tryz.ntmps18
  go_wp2_with fail
  go_loop [4] (fun n => ∃ k : Nat, k ≤ s.size ∧ n = .int .i64 k ∧ hexP s.data.toList = k + hexP (s.data.toList.drop k)) (fun n => s.size - (intOf n).toNat)
  case atStart => exact ⟨0, Nat.zero_le _, rfl, by simp⟩
  case round =>
    obtain ⟨k, hk, rfl, hp⟩ := hrel
    rcases Nat.lt_or_ge k s.size with hlt | hge
    · have hx := hexP_at s k hlt
      have HC := hide (hex_any s[k])
      cases hb : hexB s[k]
      · rw [hb, if_neg (by simp)] at hx
        rw [hb] at HC
        have HP := Lib.hid (show hexP s.data.toList = k by omega)
        have hr : (s.extract k s.size).data.toList = s.data.toList.drop k := Lib.extract_to_end s k
        have hrs : (s.extract k s.size).size = s.size - k := by rw [ByteArray.size_extract]; omega
        clear hp hb hx
        have QE := fun w' => quote_any (s.extract k s.size) (by rw [hrs]; omega) w'
        obtain ⟨ok, hok⟩ : ∃ ok, allS chr (s.extract k s.size).data.toList = ok := ⟨_, rfl⟩
        rw [hok] at QE
        obtain ⟨n4, hn4⟩ : ∃ n4 : Int, (if ok = true then 0 else 4) = n4 := ⟨_, rfl⟩
        rw [hn4] at QE
        have QE := hide QE
        have HN4 := Lib.hid hn4
        have HOK := Lib.hid hok
        clear hn4 hok
        go_upto_region 6 with (first
          | (go_at_call 29; refine (unhide HC _).mono ?_; rintro e w1 ⟨rfl, rfl⟩)
          | (go_at_call 30; refine (unhide QE _).mono ?_; rintro e w2 ⟨q, rfl, hb2⟩))
        have HB := hide hb2
        clear hb2 QE
        generalize hR : s.extract k s.size = r at *
        have h0 : 0 < r.size := by omega
        have hne : r.toList.isEmpty = false := by
          rcases empty_case r with ⟨_, h⟩ | ⟨h, _⟩
          · have h2 := congrArg List.length h
            rw [Array.length_toList] at h2
            have h3 : r.size = 0 := h2
            omega
          · exact h
        have hd : s.data.toList.drop (hexP s.data.toList) = r.data.toList := by rw [HP.out, hr]
        have hnn : s.data.toList.drop (hexP s.data.toList) ≠ [] := by
          rw [hd]; intro e
          have h2 := congrArg List.length e
          rw [Array.length_toList] at h2
          have h3 : r.size = 0 := h2
          omega
        have hhd : (s.data.toList.drop (hexP s.data.toList)).head? = some r[0] := by
          have := drop_cons r 0 h0
          rw [List.drop_zero] at this
          rw [hd, this]; rfl
        rw [hd] at hnn hhd
        have HD := Lib.hid hd
        have HNN := Lib.hid hnn
        have HHD := Lib.hid hhd
        have HR := Lib.hid hR
        clear hd hnn hhd hr hrs HC hR
        have hpre : (s.extract 0 k).data.toList = s.data.toList.take k := by rw [Lib.extract_data]; simp
        have hprs : (s.extract 0 k).size = k := by rw [ByteArray.size_extract]; omega
        have HPA := hide (show (s.extract 0 k).data.toList.all hexB = true by rw [hpre]; have := hexP_all s.data.toList; rw [HP.out] at this; exact this)
        have HPRE := Lib.hid hpre
        have HPRS := Lib.hid hprs
        clear hpre hprs
        by_cases k1 : k < 1
        · have k1i : (k : Int) < 1 := by omega
          have HQ := Lib.hid (sizeF_bad1 (l := s.data.toList) (by rw [HP.out]; exact .inl k1))
          clear k1
          go_wp2_with fail
          go_ret2
          exact ⟨by unfold sizeE; rw [HQ.out]; rfl, unhide HB⟩
        have k1i : ¬ (k : Int) < 1 := by omega
        by_cases k2 : 16 < k
        · have k2i : (16 : Int) < k := by omega
          have HQ := Lib.hid (sizeF_bad1 (l := s.data.toList) (by rw [HP.out]; exact .inr k2))
          clear k1 k2
          go_wp2_with fail
          go_ret2
          exact ⟨by unfold sizeE; rw [HQ.out]; rfl, unhide HB⟩
        have k2i : ¬ (16 : Int) < k := by omega
        have HK := Lib.hid (show ¬ (hexP s.data.toList < 1 ∨ 16 < hexP s.data.toList) by rw [HP.out]; omega)
        clear k1 k2
        generalize hc0 : r[0] = c0 at *
        by_cases h59 : c0 = 59
        · have c1 : ((c0.toNat : Int) == 59) = true := by rw [h59]; rfl
          have c2 : ((c0.toNat : Int) != 59) = false := by rw [h59]; rfl
          have H59 := Lib.hid h59
          clear h59
          cases ok
          · obtain rfl : 4 = n4 := HN4.out
            have HQ := Lib.hid (sizeF_bad2 (l := s.data.toList) (by rw [HD.out]; exact HNN.out) (.inr (by rw [HD.out]; exact HOK.out)))
            go_wp2_with fail
            go_ret2
            exact ⟨by unfold sizeE; rw [HQ.out]; rfl, unhide HB⟩
          · obtain rfl : 0 = n4 := HN4.out
            have HG := Lib.hid (sizeF_good (l := s.data.toList) HK.out (.inr ⟨by rw [HD.out, HHD.out, H59.out], by rw [HD.out]; exact HOK.out⟩))
            obtain ⟨v, hv⟩ : ∃ v, hexN (s.extract 0 k).data.toList = v := ⟨_, rfl⟩
            have PU := fun w' => puint_any (s.extract 0 k) (by rw [HPRS.out]; omega) (by rw [HPRS.out]; omega) (unhide HPA) w'
            rw [hv] at PU
            have PU := hide PU
            have HV := Lib.hid (show hexN (s.data.toList.take (hexP s.data.toList)) = v by rw [HP.out, ← HPRE.out, hv])
            clear hv
            go_upto_region 9 with (go_at_call 31; refine (unhide PU _).mono ?_; rintro e w3 ⟨rfl, hb3⟩)
            have HB3 := hide ((unhide HB).trans (hb3.mono (unhide HB).size))
            clear hb3
            by_cases g : 9007199254740991 < v
            · have gi : (9007199254740991 : Int) < v := by omega
              have HQ := Lib.hid (show sizeF s.data.toList = (0, 413) by rw [HG.out, HV.out, if_pos g])
              clear g
              go_wp2_with fail
              go_ret2
              exact ⟨by unfold sizeE; rw [HQ.out]; rfl, unhide HB3⟩
            · have gi : ¬ (9007199254740991 : Int) < v := by omega
              have wi : IntKind.i64.wrap (v : Int) = v := by rw [IntKind.wrap_i64]; omega
              have HQ := Lib.hid (show sizeF s.data.toList = (v, 0) by rw [HG.out, HV.out, if_neg g])
              clear g
              go_wp2_with fail
              go_ret2
              exact ⟨by unfold sizeE; rw [HQ.out]; rfl, unhide HB3⟩
        · have c1 : ((c0.toNat : Int) == 59) = false := by
            rw [beq_eq_false_iff_ne]; intro e; exact h59 (u8_eq (n := 59) e)
          have c2 : ((c0.toNat : Int) != 59) = true := by rw [bne, c1]; rfl
          have HQ := Lib.hid (sizeF_bad2 (l := s.data.toList) (by rw [HD.out]; exact HNN.out) (.inl (by rw [HD.out, HHD.out]; simpa using h59)))
          clear h59
          go_wp2_with fail
          go_ret2
          exact ⟨by unfold sizeE; rw [HQ.out]; rfl, unhide HB⟩
      · rw [hb, if_pos rfl] at hx
        rw [hb] at HC
        have HP := Lib.hid (show hexP s.data.toList = k + 1 + hexP (s.data.toList.drop (k + 1)) by omega)
        clear hp hb hx
        go_wp2_with (first
          | (go_at_call 29; refine (unhide HC _).mono ?_; rintro e w1 ⟨rfl, rfl⟩))
        refine ⟨⟨k + 1, by omega, by go_num, HP.out⟩, by simp [intOf]; omega⟩
    · have hke : k = s.size := by omega
      have hz : s.data.toList.drop k = [] := List.drop_of_length_le (by simp; omega)
      rw [hz] at hp
      have HP := Lib.hid (show hexP s.data.toList = k by rw [hp]; rfl)
      have HZ := Lib.hid (show s.data.toList.drop (hexP s.data.toList) = [] by rw [HP.out]; exact hz)
      obtain ⟨r, hR⟩ : ∃ r, s.extract k s.size = r := ⟨_, rfl⟩
      have hrs : r.size = 0 := by rw [← hR, ByteArray.size_extract]; omega
      have QE := fun w' => quote_any r (by rw [hrs]; omega) w'
      obtain ⟨n4, hn4⟩ : ∃ n4 : Int, (if allS chr r.data.toList = true then 0 else 4) = n4 := ⟨_, rfl⟩
      rw [hn4] at QE
      have QE := hide QE
      have hji : ¬ (k : Int) < s.size := by omega
      have hji2 : (s.size : Int) ≤ s.size := by omega
      clear hn4 hp hz hke
      go_upto_region 6 with (first
        | (go_at_call 30; refine (unhide QE _).mono ?_; rintro e w2 ⟨q, rfl, hb2⟩))
      have HB := hide hb2
      clear hb2 QE
      have hne : r.toList.isEmpty = true := by
        rcases empty_case r with ⟨h, _⟩ | ⟨_, h⟩
        · rw [h]; rfl
        · exfalso; apply h; exact List.eq_nil_of_length_eq_zero (by rw [Array.length_toList]; exact hrs)
      have hpre : (s.extract 0 k).data.toList = s.data.toList.take k := by rw [Lib.extract_data]; simp
      have hprs : (s.extract 0 k).size = k := by rw [ByteArray.size_extract]; omega
      have HPA := hide (show (s.extract 0 k).data.toList.all hexB = true by rw [hpre]; have := hexP_all s.data.toList; rw [HP.out] at this; exact this)
      have HPRE := Lib.hid hpre
      have HPRS := Lib.hid hprs
      clear hpre hprs hrs hji hji2
      by_cases k1 : k < 1
      · have k1i : (k : Int) < 1 := by omega
        have HQ := Lib.hid (sizeF_bad1 (l := s.data.toList) (by rw [HP.out]; exact .inl k1))
        clear k1
        go_wp2_with fail
        go_ret2
        exact ⟨by unfold sizeE; rw [HQ.out]; rfl, unhide HB⟩
      have k1i : ¬ (k : Int) < 1 := by omega
      by_cases k2 : 16 < k
      · have k2i : (16 : Int) < k := by omega
        have HQ := Lib.hid (sizeF_bad1 (l := s.data.toList) (by rw [HP.out]; exact .inr k2))
        clear k1 k2
        go_wp2_with fail
        go_ret2
        exact ⟨by unfold sizeE; rw [HQ.out]; rfl, unhide HB⟩
      have k2i : ¬ (16 : Int) < k := by omega
      have HG := Lib.hid (sizeF_good (l := s.data.toList) (by rw [HP.out]; omega) (.inl HZ.out))
      clear k1 k2
      obtain ⟨v, hv⟩ : ∃ v, hexN (s.extract 0 k).data.toList = v := ⟨_, rfl⟩
      have PU := fun w' => puint_any (s.extract 0 k) (by rw [HPRS.out]; omega) (by rw [HPRS.out]; omega) (unhide HPA) w'
      rw [hv] at PU
      have PU := hide PU
      have HV := Lib.hid (show hexN (s.data.toList.take (hexP s.data.toList)) = v by rw [HP.out, ← HPRE.out, hv])
      clear hv
      go_upto_region 9 with (go_at_call 31; refine (unhide PU _).mono ?_; rintro e w3 ⟨rfl, hb3⟩)
      have HB3 := hide ((unhide HB).trans (hb3.mono (unhide HB).size))
      clear hb3
      by_cases g : 9007199254740991 < v
      · have gi : (9007199254740991 : Int) < v := by omega
        have HQ := Lib.hid (show sizeF s.data.toList = (0, 413) by rw [HG.out, HV.out, if_pos g])
        clear g
        go_wp2_with fail
        go_ret2
        exact ⟨by unfold sizeE; rw [HQ.out]; rfl, unhide HB3⟩
      · have gi : ¬ (9007199254740991 : Int) < v := by omega
        have wi : IntKind.i64.wrap (v : Int) = v := by rw [IntKind.wrap_i64]; omega
        have HQ := Lib.hid (show sizeF s.data.toList = (v, 0) by rw [HG.out, HV.out, if_neg g])
        clear g
        go_wp2_with fail
        go_ret2
        exact ⟨by unfold sizeE; rw [HQ.out]; rfl, unhide HB3⟩
end Go.Proofs.YtkaaeajidejchaaGreatDoor.Sp
end

/- Plain: what holds of a decoder, whatever it is fed. -/
section
namespace Go.Proofs.YtkaaeajidejchaaGreatDoor.Sp
open Go.RowKit Sl

def statB (n : Nat) : Bool := n == 0 || n == 400 || n == 413 || n == 431
/-- what holds of a decoder that has eaten k bytes -/
structure Okd (k : Nat) (d : Dec) : Prop where
  bo : d.body.length ≤ d.B
  da : d.st = .data → 1 ≤ d.left ∧ d.body.length + d.left ≤ d.B
  ba : statB d.bad = true
  l1 : d.line.length ≤ k
  l2 : d.body.length ≤ k
  l3 : d.behind ≤ k
  l4 : d.tr.length ≤ k

theorem eatS_stat (L : Nat) (line : List UInt8) (c : UInt8) : statB (eatS L line c).1 = true := by
  unfold eatS
  repeat' split
  all_goals rfl

section
variable {sz : List UInt8 → Nat × Nat} {fl : List UInt8 → Option Fld}
theorem oneS_ok (hsz : ∀ s, statB (sz s).2 = true) {k : Nat} {d : Dec} (h : Okd k d) (c : UInt8) : Okd (k + 1) (oneS sz fl d c) := by
  obtain ⟨L, H, C, B, st, line, body, left, behind, tr, bad, done⟩ := d
  obtain ⟨h1, h2, h3, h4, h5, h6, h7⟩ := h
  have he := eatS_stat L line c
  simp only at h1 h2 h3 h4 h5 h6 h7
  cases st <;> simp only [oneS, stepS]
  · have hs := hsz line.dropLast
    repeat' split
    all_goals (refine ⟨?_, ?_, ?_, ?_, ?_, ?_, ?_⟩ <;> simp only [List.length_append, List.length_cons, List.length_nil, reduceCtorEq, false_imp_iff, imp_self, forall_const, he, hs] <;> first | omega | rfl | (intro; omega) | exact hs)
  · have hd := h2 rfl
    repeat' split
    all_goals (refine ⟨?_, ?_, ?_, ?_, ?_, ?_, ?_⟩ <;> simp only [List.length_append, List.length_cons, List.length_nil, reduceCtorEq, false_imp_iff, imp_self, forall_const] <;> first | omega | rfl | (intro; omega))
  · repeat' split
    all_goals (refine ⟨?_, ?_, ?_, ?_, ?_, ?_, ?_⟩ <;> simp only [List.length_append, List.length_cons, List.length_nil, reduceCtorEq, false_imp_iff, imp_self, forall_const] <;> first | omega | rfl | (intro; omega))
  · repeat' split
    all_goals (refine ⟨?_, ?_, ?_, ?_, ?_, ?_, ?_⟩ <;> simp only [List.length_append, List.length_cons, List.length_nil, reduceCtorEq, false_imp_iff, imp_self, forall_const] <;> first | omega | rfl | (intro; omega))
  · repeat' split
    all_goals (refine ⟨?_, ?_, ?_, ?_, ?_, ?_, ?_⟩ <;> simp only [List.length_append, List.length_cons, List.length_nil, reduceCtorEq, false_imp_iff, imp_self, forall_const, he] <;> first | omega | rfl | (intro; omega) | exact he)
theorem oneS_lim (d : Dec) (c : UInt8) : (oneS sz fl d c).B = d.B ∧ (oneS sz fl d c).L = d.L ∧ (oneS sz fl d c).H = d.H ∧ (oneS sz fl d c).C = d.C := by
  obtain ⟨L, H, C, B, st, line, body, left, behind, tr, bad, done⟩ := d
  cases st <;> simp only [oneS, stepS] <;> (repeat' split) <;> exact ⟨rfl, rfl, rfl, rfl⟩
theorem feedS_lim : ∀ (l : List UInt8) (d : Dec), (feedS sz fl d l).1.B = d.B ∧ (feedS sz fl d l).1.L = d.L ∧ (feedS sz fl d l).1.H = d.H ∧ (feedS sz fl d l).1.C = d.C
  | [], d => ⟨rfl, rfl, rfl, rfl⟩
  | c :: t, d => by
    unfold feedS
    split
    · exact ⟨rfl, rfl, rfl, rfl⟩
    · have h1 := feedS_lim t (oneS sz fl d c)
      have h2 := oneS_lim (sz := sz) (fl := fl) d c
      rw [h2.1, h2.2.1, h2.2.2.1, h2.2.2.2] at h1
      exact h1
theorem feedS_ok (hsz : ∀ s, statB (sz s).2 = true) : ∀ (l : List UInt8) (k : Nat) (d : Dec), Okd k d → Okd (k + l.length) (feedS sz fl d l).1
  | [], k, d, h => h
  | c :: t, k, d, h => by
    unfold feedS
    split
    · exact ⟨h.bo, h.da, h.ba, Nat.le_trans h.l1 (Nat.le_add_right _ _), Nat.le_trans h.l2 (Nat.le_add_right _ _), Nat.le_trans h.l3 (Nat.le_add_right _ _), Nat.le_trans h.l4 (Nat.le_add_right _ _)⟩
    · have := feedS_ok hsz t (k + 1) _ (oneS_ok (fl := fl) hsz h c)
      rw [List.length_cons, Nat.add_comm t.length 1, ← Nat.add_assoc]
      exact this
end
end Go.Proofs.YtkaaeajidejchaaGreatDoor.Sp
end

/- The decoder's states: size, data, cr, lf. -/
section
namespace Go.Proofs.YtkaaeajidejchaaGreatDoor.Sp
open Go.RowKit Sl

/-- a field's line, read -/
def flF (l : List UInt8) : Option Fld := if lineB (ofL l) = true then some (lineF (ofL l)) else none
def nextF : CS → FuncId
  | .size => 27
  | .data => 44
  | .cr => 58
  | .lf => 79
  | .field => 43
/-- the function value of a state -/
def nextV (b : Nat) (st : CS) : Value := .func (.func (nextF st)) #[.pointer (some ⟨b, 0, none⟩)] #[]
/-- a state's end -/
def stE (b : Nat) (r : Dec × Nat) (e : Ending) : Prop := e = if r.2 ≠ 0 then flawE r.2 else .returned (nextV b r.1.st)
/-- a decoder that a call has written -/
def Went (b base : Nat) (nx : Value) (w : World) (ln bd tr : Value) (d : Dec) (w' : World) : Prop := ∃ ln' bd' tr', DecAt w' base b nx d ln' bd' tr' ∧ Moves b w ln bd tr w' ln' bd' tr'

theorem stE_bad {b : Nat} {r : Dec × Nat} {d' : Dec} {f : Nat} (hq : r = (d', f)) (hf : f ≠ 0) : stE b r (flawE f) := by
  unfold stE; rw [hq]; simp only; rw [if_pos hf]
theorem stE_ok {b : Nat} {r : Dec × Nat} {d' : Dec} {st : CS} (hq : r = (d', 0)) (hs : d'.st = st) : stE b r (.returned (nextV b st)) := by
  unfold stE; rw [hq]; simp only; rw [if_neg (by simp), hs]
theorem went_of {b base : Nat} {nx : Value} {w : World} {ln bd tr : Value} {r : Dec × Nat} {d' : Dec} {f : Nat} {w' : World} {ln' bd' tr' : Value} (hq : r = (d', f)) (h1 : DecAt w' base b nx d' ln' bd' tr') (h2 : Moves b w ln bd tr w' ln' bd' tr') : Went b base nx w ln bd tr r.1 w' := by
  rw [hq]; exact ⟨_, _, _, h1, h2⟩
theorem sizeF_stat (s : List UInt8) : statB (sizeF s).2 = true := by
  unfold sizeF
  split
  · rfl
  · split <;> rfl
theorem eat_bad (w : World) (base b : Nat) (nx : Value) (d : Dec) (ln bd tr : Value) (c : UInt8) (h : DecAt w base b nx d ln bd tr) (hl : d.line.length ≤ 1000000) (hbase : base ≤ w.heap.size) (f : Nat) (wh : Bool) (he : eatS d.L d.line c = (f, wh)) (hf : f ≠ 0) :
    Calls Tryz.prog 41 #[.pointer (some ⟨b, 0, none⟩), .int .u8 c.toNat] w fun e w' => e = .panicked [{ v := .iface 59 (.int .i64 f), recovered := false }] ∧ ∃ ln', DecAt w' base b nx { d with line := d.line ++ [c] } ln' bd tr ∧ Moves b w ln bd tr w' ln' bd tr := by
  refine (eat_any w base b nx d ln bd tr c h hl hbase).mono ?_
  rintro e w' ⟨h1, h2⟩
  refine ⟨?_, h2⟩
  rw [he] at h1
  unfold eatE at h1
  rw [if_pos hf] at h1
  exact h1
theorem eat_ok (w : World) (base b : Nat) (nx : Value) (d : Dec) (ln bd tr : Value) (c : UInt8) (h : DecAt w base b nx d ln bd tr) (hl : d.line.length ≤ 1000000) (hbase : base ≤ w.heap.size) (wh : Bool) (he : eatS d.L d.line c = (0, wh)) :
    Calls Tryz.prog 41 #[.pointer (some ⟨b, 0, none⟩), .int .u8 c.toNat] w fun e w' => e = .returned (.bool wh) ∧ ∃ ln', DecAt w' base b nx { d with line := d.line ++ [c] } ln' bd tr ∧ Moves b w ln bd tr w' ln' bd tr := by
  refine (eat_any w base b nx d ln bd tr c h hl hbase).mono ?_
  rintro e w' ⟨h1, h2⟩
  refine ⟨?_, h2⟩
  rw [he] at h1
  exact h1
theorem eatS_whole {L : Nat} {line : List UInt8} {c : UInt8} (h : eatS L line c = (0, true)) : c = 10 ∧ ∃ x, line = x ++ [13] := by
  unfold eatS at h
  split at h
  · cases h
  · split at h
    · cases h
    · rename_i h2
      split at h
      · rename_i h3
        refine ⟨h3, ?_⟩
        subst h3
        have h4 : line.getLast? = some 13 := by simpa using h2
        exact List.getLast?_eq_some_iff.1 h4
      · split at h <;> cases h

set_option maxRecDepth 100000 in
set_option maxHeartbeats 2000000 in
theorem dsize_any (w : World) (base b : Nat) (nx : Value) (d : Dec) (ln bd tr : Value) (c : UInt8) (h : DecAt w base b nx d ln bd tr) (hst : d.st = .size) (hl : d.line.length ≤ 900000) (hbase : base ≤ w.heap.size) (hbo : d.body.length ≤ d.B) (hB : d.B ≤ 9223372036854775807) :
    Calls Tryz.prog 27 #[.pointer (some ⟨b, 0, none⟩), .int .u8 c.toNat] w fun e w' => stE b (stepS sizeF flF d c) e ∧ Went b base nx w ln bd tr (stepS sizeF flF d c).1 w' := by
  obtain ⟨f, hf⟩ : ∃ f, (eatS d.L d.line c).1 = f := ⟨_, rfl⟩
  obtain ⟨wh, hwh⟩ : ∃ wh, (eatS d.L d.line c).2 = wh := ⟨_, rfl⟩
  have hee : eatS d.L d.line c = (f, wh) := by rw [← hf, ← hwh]
  by_cases hf0 : f ≠ 0
  · have HS := Lib.hid (show stepS sizeF flF d c = ({ d with line := d.line ++ [c] }, f) by unfold stepS; rw [hst]; simp only; rw [hee, if_pos hf0])
    have HE := hide (eat_bad w base b nx d ln bd tr c h (by omega) hbase f wh hee hf0)
    clear h hee hf hwh
    have HF := Lib.hid hf0
    clear hf0
    go_enter Tryz.func27, Tryz.ntmps27
    go_wp2_with (go_at_call 41; refine (unhide HE).mono ?_; rintro e w1 ⟨rfl, ln', h1, h2⟩)
    exact ⟨rfl, stE_bad HS.out HF.out, went_of HS.out h1 h2⟩
  · obtain rfl : f = 0 := by omega
    have HE := hide (eat_ok w base b nx d ln bd tr c h (by omega) hbase wh hee)
    cases wh
    · have HS := Lib.hid (show stepS sizeF flF d c = ({ d with line := d.line ++ [c] }, 0) by unfold stepS; rw [hst]; simp only; rw [hee, if_neg (by simp), if_pos rfl])
      clear h hee hf hwh
      have HST := Lib.hid hst
      clear hf0 hst
      go_enter Tryz.func27, Tryz.ntmps27
      go_wp2_with (go_at_call 41; refine (unhide HE).mono ?_; rintro e w1 ⟨rfl, ln', h1, h2⟩)
      go_ret
      exact ⟨stE_ok HS.out HST.out, went_of HS.out h1 h2⟩
    · obtain ⟨rfl, x, hx⟩ := eatS_whole hee
      have hxl : x.length ≤ 900000 := by rw [hx] at hl; simp at hl; omega
      obtain ⟨⟨n, st⟩, hn⟩ : ∃ r, sizeF x = r := ⟨_, rfl⟩
      have hS0 : stepS sizeF flF d 10 = if st ≠ 0 then ({ d with line := [] }, st) else if d.B - d.body.length < n then ({ d with line := [] }, 413) else if n = 0 then ({ d with line := [], st := .field }, 0) else ({ d with line := [], left := n, st := .data }, 0) := by
        unfold stepS
        rw [hst]
        simp only
        rw [hee, if_neg (by simp), if_neg (by simp), hx, List.dropLast_concat, hn]
      have hsz := size_any ⟨x.toArray⟩ (by show x.toArray.size ≤ 1000000; simp; omega)
      unfold sizeE at hsz
      rw [show (⟨x.toArray⟩ : ByteArray).data.toList = x from rfl, hn] at hsz
      simp only at hsz
      have hn53 : n ≤ 9007199254740991 := by have := sizeF_le x; rw [hn] at this; exact this
      have HSZ := hide hsz
      have HS := Lib.hid hS0
      have HX := Lib.hid hx
      clear hsz hS0 hx h hee hf hwh hf0
      go_enter Tryz.func27, Tryz.ntmps27
      go_upto_region 4 with (first
        | (go_at_call 18; refine (unhide HSZ _).mono ?_; rintro e w3 ⟨rfl, h5⟩)
        | (go_at_call 42; refine (take_any _ base b nx _ _ _ _ x 13 10 (unhide HD1) (by show d.line ++ [10] = _; rw [HX.out]; simp) (by omega)).mono ?_; rintro e w2 ⟨rfl, h3, h4⟩)
        | (go_at_call 41; refine (unhide HE).mono ?_; rintro e w1 ⟨rfl, ln', h1, h2⟩; have HD1 := hide h1; have HM1 := hide h2; clear h1 h2))
      have HD3 := hide (h3.call h5)
      have HM3 := hide (((unhide HM1).trans h4).call h5)
      clear h3 h4 h5 HD1 HM1
      have p3 := (unhide HD3).has.cell 3 _ rfl
      have p6 := (unhide HD3).has.cell 6 _ rfl
      have p7 := (unhide HD3).has.cell 7 _ rfl
      have u7 := (unhide HD3).has.free 7 (by simp [decV])
      have zb := (unhide HD3).has.lt
      obtain ⟨bo, bc, hbd⟩ := (Rd.own (unhide HD3).body).form
      simp only at p3 p6 p7 hbd
      rw [hbd] at p6
      clear hbd
      by_cases hs0 : st ≠ 0
      · have HQ := Lib.hid (show stepS sizeF flF d 10 = ({ d with line := [] }, st) by rw [HS.out, if_pos hs0])
        have HF := Lib.hid hs0
        have s1 : ((st : Int) != 0) = true := by rw [bne_iff_ne]; omega
        have s2 : ¬ (st : Int) = 0 := by omega
        clear hs0 p3 p6
        go_wp2_with fail
        exact ⟨rfl, stE_bad HQ.out HF.out, went_of HQ.out (unhide HD3) (unhide HM3)⟩
      · obtain rfl : st = 0 := by omega
        go_upto_region 6 with fail
        have hB3 : (d.B : Int) - (d.body.length : Int) = ((d.B - d.body.length : Nat) : Int) := by omega
        obtain ⟨rm, hrm⟩ : ∃ rm, d.B - d.body.length = rm := ⟨_, rfl⟩
        rw [hrm] at hB3
        refine Reg.region_more (by kernel_rfl) (by kernel_rfl) ?_
        repeat (go_big_quiet_step (fail))
        refine wpQuiet_nil ?_
        intro w5 hb5; obtain ⟨hc5, hf5, hz5⟩ := bcell hb5; (try simp at hz5)
        have HD5 := hide ((unhide HD3).call hb5)
        have HM5 := hide ((unhide HM3).call hb5)
        have q7 := (unhide HD5).has.cell 7 _ rfl
        have v7 := (unhide HD5).has.free 7 (by simp [decV])
        clear hb5 hc5 hf5 hz5 p3 p6 p7 u7 HD3 HM3 zb HSZ HE hB3 hs0
        by_cases g1 : rm < n
        · have HQ := Lib.hid (show stepS sizeF flF d 10 = ({ d with line := [] }, 413) by rw [HS.out, if_neg (by simp), hrm, if_pos g1])
          clear hrm
          go_wp2_with fail
          exact ⟨rfl, stE_bad HQ.out (by decide), went_of HQ.out (unhide HD5) (unhide HM5)⟩
        · by_cases g2 : n = 0
          · have HQ := Lib.hid (show stepS sizeF flF d 10 = ({ d with line := [], st := .field }, 0) by rw [HS.out, if_neg (by simp), hrm, if_neg g1, if_pos g2])
            have g3 : ((n : Int) == 0) = true := by rw [g2]; rfl
            have g4 : (n : Int) = 0 := by omega
            clear hrm g2
            go_wp2_with fail
            go_ret
            have HD6 : DecAt w5 base b nx { d with line := [], st := .field } (.slice none 0 0) bd tr := (unhide HD5).st .field
            exact ⟨stE_ok HQ.out rfl, went_of HQ.out HD6 (unhide HM5)⟩
          · have HQ := Lib.hid (show stepS sizeF flF d 10 = ({ d with line := [], left := n, st := .data }, 0) by rw [HS.out, if_neg (by simp), hrm, if_neg g1, if_neg g2])
            have g3 : ((n : Int) == 0) = false := by rw [beq_eq_false_iff_ne]; omega
            have g4 : ¬ (n : Int) = 0 := by omega
            clear hrm g2
            go_wp2_with fail
            go_ret
            have HD6 := ((unhide HD5).put (d' := { d with line := [], left := n }) 7 (.int .i64 n) rfl rfl rfl rfl).st .data
            exact ⟨stE_ok HQ.out rfl, went_of HQ.out HD6 ((unhide HM5).put 7 _)⟩
end Go.Proofs.YtkaaeajidejchaaGreatDoor.Sp
end

/- The decoder's states: data, cr, lf. -/
section
namespace Go.Proofs.YtkaaeajidejchaaGreatDoor.Sp
open Go.RowKit Sl

set_option maxRecDepth 100000 in
set_option maxHeartbeats 2000000 in
theorem ddata_any (w : World) (base b : Nat) (nx : Value) (d : Dec) (ln bd tr : Value) (c : UInt8) (h : DecAt w base b nx d ln bd tr) (hst : d.st = .data) (hl : d.body.length ≤ 900000) (hbase : base ≤ w.heap.size) (h1 : 1 ≤ d.left) (hbo : d.body.length + d.left ≤ d.B) (hB : d.B ≤ 9223372036854775807) :
    Calls Tryz.prog 44 #[.pointer (some ⟨b, 0, none⟩), .int .u8 c.toNat] w fun e w' => stE b (stepS sizeF flF d c) e ∧ Went b base nx w ln bd tr (stepS sizeF flF d c).1 w' := by
  have HD := hide h
  have p6 := h.has.cell 6 _ rfl
  have u6 := h.has.free 6 (by simp [decV])
  have zb := h.has.lt
  have HA := hide (h.alloc (.cells #[.int .u8 c.toNat] 5))
  obtain ⟨k, hk⟩ : ∃ k, d.body.length = k := ⟨_, rfl⟩
  rw [hk] at hl
  have HK := Lib.hid hk
  obtain ⟨lf, hlf⟩ : ∃ lf, d.left = lf := ⟨_, rfl⟩
  rw [hlf] at h1 hbo
  have HS := Lib.hid (show stepS sizeF flF d c = if 0 < lf - 1 then ({ d with body := d.body ++ [c], left := lf - 1 }, 0) else ({ d with body := d.body ++ [c], left := lf - 1, st := .cr }, 0) by unfold stepS; rw [hst]; simp only; rw [hlf])
  have HLF := Lib.hid hlf
  have HST := Lib.hid hst
  have hlb : lf ≤ 9223372036854775807 := by omega
  clear h hk hlf hst hbo
  go_enter Tryz.func44, Tryz.ntmps44
  go_upto_region 2 with (refine wpList_pushBAt rfl _ _ rfl base bd d.body k HK.out rfl (unhide HD).body c rfl _ rfl (by omega) hbase ?_; intro bd' w1 h2 hg hat; obtain ⟨g, cp, rfl, hcp, hcl⟩ := own_some h2 (by simp); have HS2 := hide ((unhide HA).setBody (d.body ++ [c]) hg (by rw [List.length_append, HK.out]; exact h2) hat); have q6 := ((unhide HA).has_body hg).cell 6 _ rfl; have v6 := ((unhide HA).has_body hg).free 6 (by simp [decV]); clear h2 hg hat)
  obtain ⟨HD2, HM2⟩ := unhide HS2
  have HM3 := hide (Moves.after ((Below.refl _ _).alloc (Nat.le_refl _) _) HM2)
  clear HS2 q6 v6 hcl HM2 HA HD p6 u6
  have p7 := HD2.has.cell 7 _ rfl
  have u7 := HD2.has.free 7 (by simp [decV])
  have HE := hide HD2
  clear HD2
  generalize w1.setCell ⟨b, 6, none⟩ _ = w2 at HE HM3 p7 u7 ⊢
  simp only at p7
  rw [HLF.out] at p7
  have l1 : (lf : Int) - 1 = ((lf - 1 : Nat) : Int) := by omega
  have wl : wrap64 ((lf : Int) - 1) = ((lf - 1 : Nat) : Int) := by unfold wrap64; omega
  obtain ⟨m, hm⟩ : ∃ m, lf - 1 = m := ⟨_, rfl⟩
  rw [hm] at l1 wl
  have wl : wrap64 (m : Int) = m := by unfold wrap64; omega
  have HMM := Lib.hid hm
  clear hcp hbase zb hm h1
  have HD4 := hide ((unhide HE).put (d' := { d with body := d.body ++ [c], left := lf - 1 }) 7 (.int .i64 m) (by rw [HMM.out]; rfl) rfl rfl rfl)
  by_cases g1 : 0 < m
  · have g2 : (0 : Int) < m := by omega
    have HQ := Lib.hid (show stepS sizeF flF d c = ({ d with body := d.body ++ [c], left := lf - 1 }, 0) by rw [HS.out, HMM.out, if_pos g1])
    clear g1
    go_wp2_with fail
    go_ret
    exact ⟨stE_ok HQ.out HST.out, went_of HQ.out (unhide HD4) ((unhide HM3).put 7 _)⟩
  · have g2 : ¬ (0 : Int) < m := by omega
    have HQ := Lib.hid (show stepS sizeF flF d c = ({ d with body := d.body ++ [c], left := lf - 1, st := .cr }, 0) by rw [HS.out, HMM.out, if_neg g1])
    clear g1
    go_wp2_with fail
    go_ret
    exact ⟨stE_ok HQ.out rfl, went_of HQ.out ((unhide HD4).st .cr) ((unhide HM3).put 7 _)⟩

set_option maxRecDepth 100000 in
theorem dcr_any (w : World) (base b : Nat) (nx : Value) (d : Dec) (ln bd tr : Value) (c : UInt8) (h : DecAt w base b nx d ln bd tr) (hst : d.st = .cr) :
    Calls Tryz.prog 58 #[.pointer (some ⟨b, 0, none⟩), .int .u8 c.toNat] w fun e w' => stE b (stepS sizeF flF d c) e ∧ Went b base nx w ln bd tr (stepS sizeF flF d c).1 w' := by
  have HD := hide h
  clear h
  by_cases hc : c = 13
  · have c1 : ((c.toNat : Int) == 13) = true := by rw [hc]; rfl
    have c2 : ((c.toNat : Int) != 13) = false := by rw [hc]; rfl
    have HQ := Lib.hid (show stepS sizeF flF d c = ({ d with st := .lf }, 0) by unfold stepS; rw [hst]; simp only; rw [if_pos hc])
    clear hc
    go_enter Tryz.func58, Tryz.ntmps58
    go_wp2_with fail
    go_ret
    exact ⟨stE_ok HQ.out rfl, went_of HQ.out ((unhide HD).st .lf) (Moves.refl _ _ _ _ _)⟩
  · have c1 : ((c.toNat : Int) == 13) = false := by rw [beq_eq_false_iff_ne]; intro e; exact hc (u8_eq (n := 13) e)
    have c2 : ((c.toNat : Int) != 13) = true := by rw [bne, c1]; rfl
    have HQ := Lib.hid (show stepS sizeF flF d c = (d, 400) by unfold stepS; rw [hst]; simp only; rw [if_neg hc])
    clear hc
    go_enter Tryz.func58, Tryz.ntmps58
    go_wp2_with fail
    exact ⟨rfl, stE_bad HQ.out (by decide), went_of HQ.out (unhide HD) (Moves.refl _ _ _ _ _)⟩
set_option maxRecDepth 100000 in
theorem dlf_any (w : World) (base b : Nat) (nx : Value) (d : Dec) (ln bd tr : Value) (c : UInt8) (h : DecAt w base b nx d ln bd tr) (hst : d.st = .lf) :
    Calls Tryz.prog 79 #[.pointer (some ⟨b, 0, none⟩), .int .u8 c.toNat] w fun e w' => stE b (stepS sizeF flF d c) e ∧ Went b base nx w ln bd tr (stepS sizeF flF d c).1 w' := by
  have HD := hide h
  clear h
  by_cases hc : c = 10
  · have c1 : ((c.toNat : Int) == 10) = true := by rw [hc]; rfl
    have c2 : ((c.toNat : Int) != 10) = false := by rw [hc]; rfl
    have HQ := Lib.hid (show stepS sizeF flF d c = ({ d with st := .size }, 0) by unfold stepS; rw [hst]; simp only; rw [if_pos hc])
    clear hc
    go_enter Tryz.func79, Tryz.ntmps79
    go_wp2_with fail
    go_ret
    exact ⟨stE_ok HQ.out rfl, went_of HQ.out ((unhide HD).st .size) (Moves.refl _ _ _ _ _)⟩
  · have c1 : ((c.toNat : Int) == 10) = false := by rw [beq_eq_false_iff_ne]; intro e; exact hc (u8_eq (n := 10) e)
    have c2 : ((c.toNat : Int) != 10) = true := by rw [bne, c1]; rfl
    have HQ := Lib.hid (show stepS sizeF flF d c = (d, 400) by unfold stepS; rw [hst]; simp only; rw [if_neg hc])
    clear hc
    go_enter Tryz.func79, Tryz.ntmps79
    go_wp2_with fail
    exact ⟨rfl, stE_bad HQ.out (by decide), went_of HQ.out (unhide HD) (Moves.refl _ _ _ _ _)⟩
end Go.Proofs.YtkaaeajidejchaaGreatDoor.Sp
end
