/- Lemmas for the statement's proof, several texts in one: M4, C14, C15, C16, D1, Lf. -/
import Derived.Test.YtbpopmbabckojaaGreatDoorZ21
import Derived.Test.YtbpopmbabckojaaGreatDoorZ22
import Derived.Test.YtbpopmbabckojaaGreatDoorZ10
import Derived.Test.YtbpopmbabckojaaGreatDoorZ17
set_option linter.unusedVariables false
set_option linter.unusedSimpArgs false
/- Plain: what emit.Check, Request, Response, Chunked answer; content in chunks. -/
section
namespace Go.Proofs.YtbpopmbabckojaaGreatDoor.Sp
open Go.RowKit Sl

def clB : ByteArray := ⟨#[67, 111, 110, 116, 101, 110, 116, 45, 76, 101, 110, 103, 116, 104]⟩
def teB : ByteArray := ⟨#[84, 114, 97, 110, 115, 102, 101, 114, 45, 69, 110, 99, 111, 100, 105, 110, 103]⟩
/-- emit.Check -/
def emC (me ta re : ByteArray) (st mi : Int) (F T : List Fld) : Int :=
  if (lineS me ta re st mi).2 = 0 ∧ F.all chkS = true ∧ T.all chkS = true then (if (allB F clB).isEmpty = true ∧ (allB F teB).isEmpty = true then 0 else 6) else 4
def postM (me : ByteArray) : Bool := me.toList == [80, 79, 83, 84] || me.toList == [80, 85, 84] || me.toList == [80, 65, 84, 67, 72]
def clN (bo : ByteArray) : ByteArray := clB ++ ⟨#[58, 32]⟩ ++ itoaB bo.size
def headM (me ta re : ByteArray) (st mi : Int) (F : List Fld) (more body : ByteArray) : ByteArray := putS (ofL (lineS me ta re st mi).1) (ofL (linesL F)) more body
/-- emit.Request -/
def reqS (me ta re bo : ByteArray) (st mi : Int) (F T : List Fld) : ByteArray × Int :=
  if emC me ta re st mi F T = 0 then
    (if me.toList.isEmpty = true then (⟨#[]⟩, 4) else (headM me ta re st mi F (if postM me = true ∨ bo.toList.isEmpty = false then clN bo else ⟨#[]⟩) bo, 0))
  else (⟨#[]⟩, emC me ta re st mi F T)
/-- is a method HEAD? -/
def headB (me : ByteArray) : Bool := me.toList == [72, 69, 65, 68]
/-- emit.Response -/
def resS (me ta re bo : ByteArray) (st mi : Int) (F T : List Fld) (m : ByteArray) : ByteArray × Int :=
  if emC me ta re st mi F T = 0 then
    (if me.toList.isEmpty = true then (headM me ta re st mi F (if noneI st = true ∨ (headB m = true ∧ bo.toList.isEmpty = true) then ⟨#[]⟩ else clN bo) (if noneI st = true ∨ headB m = true then ⟨#[]⟩ else bo), 0) else (⟨#[]⟩, 4))
  else (⟨#[]⟩, emC me ta re st mi F T)
def teN : ByteArray := teB ++ ⟨#[58, 32, 99, 104, 117, 110, 107, 101, 100]⟩
/-- emit.Chunked -/
def chuS (me ta re bo : ByteArray) (st mi : Int) (F T : List Fld) (size : Int) : ByteArray × Int :=
  if emC me ta re st mi F T = 0 then
    (if mi = 0 ∨ (me.toList.isEmpty = true ∧ noneI st = true) then (⟨#[]⟩, 4) else (headM me ta re st mi F teN (ofL (encL bo.data.toList size T)), 0))
  else (⟨#[]⟩, emC me ta re st mi F T)

theorem emC_line {me ta re : ByteArray} {st mi : Int} {F T : List Fld} (h : emC me ta re st mi F T = 0) : (lineS me ta re st mi).2 = 0 ∧ F.all chkS = true ∧ T.all chkS = true := by
  unfold emC at h
  by_cases hh : (lineS me ta re st mi).2 = 0 ∧ F.all chkS = true ∧ T.all chkS = true
  · exact hh
  · rw [if_neg hh] at h; exact absurd h (by decide)
theorem lineS_cases (me ta re : ByteArray) (st mi : Int) : (lineS me ta re st mi).2 = 0 ∨ (lineS me ta re st mi).2 = 4 := by
  unfold lineS rlS slS
  split
  · split
    · split <;> simp
    · simp
  · split
    · split <;> simp
    · simp
theorem lineS_status {me ta re : ByteArray} {st mi : Int} (hm : me.toList.isEmpty = true) (h : (lineS me ta re st mi).2 = 0) : 100 ≤ st ∧ st ≤ 599 := by
  unfold lineS at h
  rw [if_pos hm] at h
  unfold slS at h
  split at h
  · split at h
    · rename_i h2; exact ⟨h2.2.2.1, h2.2.2.2.1⟩
    · exact absurd h (by decide)
  · exact absurd h (by decide)
end Go.Proofs.YtbpopmbabckojaaGreatDoor.Sp
end

/- The closures of Del and Set; Del. -/
section
namespace Go.Proofs.YtbpopmbabckojaaGreatDoor.Sp
open Go.RowKit Sl
theorem cell_call {W w' : World} {a : Addr} {v : Value} (hb : Below W.heap.size W w') (h : W.cell? a = some v) : w'.cell? a = some v :=
  (hb.cell (World.block_lt_of_cell? W a h)).trans h
theorem keepF_unit (p : Fld → Bool) (L : List Fld) : keepF (fun (_ : Unit) f => (p f, ())) () L = L.filter fun f => !p f := by
  induction L with
  | nil => rfl
  | cons f t ih =>
    rw [keepF]
    cases hp : p f
    · rw [if_neg (by simp), List.filter_cons_of_pos (by simp [hp])]
      exact congrArg (f :: ·) ih
    · rw [if_pos rfl, List.filter_cons_of_neg (by simp [hp])]
      exact ih


def stepN (name : ByteArray) (_ : Unit) (f : Fld) : Bool × Unit := (isN name f, ())
def stepS (name : ByteArray) (there : Bool) (f : Fld) : Bool × Bool := (there && isN name f, there || isN name f)




def delF (L : List Fld) (name : ByteArray) : List Fld := L.filter fun f => !isN name f

end Go.Proofs.YtbpopmbabckojaaGreatDoor.Sp
end

/- Set. -/
section
namespace Go.Proofs.YtbpopmbabckojaaGreatDoor.Sp
open Go.RowKit Sl

def setR (name value : ByteArray) : Bool → List Fld → List Fld
  | true, [] => []
  | false, [] => [(name, value)]
  | there, f :: t => if isN name f = true then (if there = true then setR name value true t else (f.1, value) :: setR name value true t) else f :: setR name value there t
def setB (L : List Fld) (name value : ByteArray) : List Fld := setR name value false L

theorem setR_true (name value : ByteArray) : ∀ L : List Fld, setR name value true L = keepF (stepS name) true L
  | [] => rfl
  | f :: t => by
    rw [setR, keepF, setR_true name value t]
    unfold stepS
    cases h : isN name f <;> simp
theorem setR_false (name value : ByteArray) : ∀ L : List Fld,
    ((∀ k (h : k < (keepF (stepS name) false L).length), isN name (keepF (stepS name) false L)[k] = false) → setR name value false L = keepF (stepS name) false L ++ [(name, value)]) ∧
    (∀ k (h : k < (keepF (stepS name) false L).length), (∀ j (h1 : j < k) (h2 : j < (keepF (stepS name) false L).length), isN name (keepF (stepS name) false L)[j] = false) → isN name (keepF (stepS name) false L)[k] = true →
      setR name value false L = (keepF (stepS name) false L).set k ((keepF (stepS name) false L)[k].1, value))
  | [] => ⟨fun _ => rfl, fun k h => absurd h (Nat.not_lt_zero _)⟩
  | f :: t => by
    have ih := setR_false name value t
    cases hf : isN name f
    · have e1 : keepF (stepS name) false (f :: t) = f :: keepF (stepS name) false t := by
        rw [keepF]; unfold stepS; simp [hf]
      have e2 : setR name value false (f :: t) = f :: setR name value false t := by rw [setR, if_neg (by rw [hf]; decide)]
      simp only [e1, e2]
      refine ⟨fun h => ?_, fun k h ha hk => ?_⟩
      · rw [ih.1 (fun k hk => by have := h (k + 1) (by simp; omega); simpa using this)]; rfl
      · cases k with
        | zero => simp [hf] at hk
        | succ k =>
          rw [ih.2 k (by simpa using h) (fun j h1 h2 => by have := ha (j + 1) (by omega) (by simp; omega); simpa using this) (by simpa using hk)]
          simp
    · have e1 : keepF (stepS name) false (f :: t) = f :: keepF (stepS name) true t := by
        rw [keepF]; unfold stepS; simp [hf]
      have e2 : setR name value false (f :: t) = (f.1, value) :: keepF (stepS name) true t := by rw [setR, if_pos hf, if_neg (by decide), setR_true]
      simp only [e1, e2]
      refine ⟨fun h => ?_, fun k h ha hk => ?_⟩
      · have := h 0 (by simp); simp [hf] at this
      · cases k with
        | zero => simp
        | succ k => have := ha 0 (by omega) (by simp); simp [hf] at this

theorem set_same {α : Type} (l : List α) (i : Nat) (a : α) (h : l[i]? = some a) : l.set i a = l := by
  obtain ⟨hi, e⟩ := List.getElem?_eq_some_iff.1 h
  rw [← e]
  exact List.set_getElem_self hi

end Go.Proofs.YtbpopmbabckojaaGreatDoor.Sp
end

/- Get, Via. -/
section
namespace Go.Proofs.YtbpopmbabckojaaGreatDoor.Sp
open Go.RowKit Sl

def joinB (A : List ByteArray) : ByteArray := ofL (Lib.join (A.map (·.data.toList)) [44, 32])
def getB (L : List Fld) (name : ByteArray) : ByteArray := joinB (allB L name)
theorem lens_le : ∀ (A : List ByteArray) (c : Nat), (∀ x ∈ A, x.size ≤ c) → Lib.lens (A.map (·.data.toList)) ≤ A.length * c
  | [], _, _ => by simp [Lib.lens]
  | x :: t, c, h => by
    have h1 := lens_le t c (fun y hy => h y (List.mem_cons_of_mem _ hy))
    have h2 := h x List.mem_cons_self
    have h3 : x.data.toList.length = x.size := by simp
    simp only [Lib.lens, List.map_cons, List.foldr_cons, List.length_cons, Nat.succ_mul, List.sum_cons] at h1 ⊢
    omega
theorem join_size (A : List ByteArray) (hl : A.length ≤ 100) (h : ∀ x ∈ A, x.size ≤ 2000) : (Lib.join (A.map (·.data.toList)) [44, 32]).length ≤ 300000 := by
  cases A with
  | nil => simp [Lib.join_nil]
  | cons x t =>
    rw [List.map_cons, Lib.join_length]
    have h1 := lens_le (x :: t) 2000 h
    rw [List.map_cons] at h1
    have h2 : (x :: t).length * 2000 ≤ 100 * 2000 := Nat.mul_le_mul_right _ hl
    simp at hl ⊢
    omega

theorem join_any (v : Value) (A : List ByteArray) (hl : A.length ≤ 100) (h : ∀ x ∈ A, x.size ≤ 2000) (w : World) (hv : Rd w v A.length 1 (strV A)) :
    Calls Tryz.prog 72 #[v, .string ⟨#[44, 32]⟩] w fun e w' => e = .returned (.string (joinB A)) ∧ Below w.heap.size w w' := by
  cases A with
  | nil =>
    obtain ⟨ao, cap, rfl⟩ := hv.form
    refine (Tryz.strings_Join_none ao cap ⟨#[44, 32]⟩ w).mono ?_
    rintro e w' ⟨rfl, rfl⟩
    exact ⟨rfl, Below.refl _ _⟩
  | cons x t =>
    obtain ⟨ao, cap, rfl, hc, _, _, hcc⟩ := hv
    obtain ⟨b, off, rfl, hb, hcl⟩ := hcc (by simp [strV])
    exact Tryz.strings_Join b off cap (x :: t) ⟨#[44, 32]⟩ w (fun j y hy => hcl j _ (by
      have : (strV (x :: t))[j]? = ((x :: t)[j]?).map .string := by unfold strV; rw [List.getElem?_map]
      rw [this, hy]; rfl)) hb (by omega) hc (by have := join_size (x :: t) hl h; exact Nat.le_trans this (by omega))

theorem fget_any (v : Value) (L : List Fld) (name : ByteArray) (hL : Few L) (hn : name.size ≤ 2000) (w : World) (hv : Rd w v L.length 2 (fldV L)) :
    Calls Tryz.prog 48 #[v, .string name] w fun e w' => e = .returned (.tuple #[.string (getB L name), .bool (!(allB L name).isEmpty)]) ∧ Below w.heap.size w w' := by
  obtain ⟨ao, cap, rfl⟩ := hv.form
  have hc := hide (fall_any _ L name hL hn w hv)
  obtain ⟨hs1, hs2⟩ := allB_small hL name
  have hgt : decide (0 < (allB L name).length) = !(allB L name).isEmpty := by cases allB L name <;> simp
  have hget : getB L name = joinB (allB L name) := rfl
  rw [hget]
  obtain ⟨A, hA⟩ : ∃ A, allB L name = A := ⟨_, rfl⟩
  rw [hA] at hc hs1 hs2 hgt ⊢
  obtain ⟨yes, hy⟩ : ∃ yes, (!A.isEmpty) = yes := ⟨_, rfl⟩
  rw [hy] at hgt ⊢
  have HS2 := hide hs2
  have HV := hide hv
  have HGT := Lib.hid hgt
  clear hv hs2 hA hget hy hL hgt
  go_enter Tryz.func48, Tryz.ntmps48
  go_wp2_with (first
    | (go_at_call 71; refine (unhide hc).mono ?_; rintro e w1 ⟨v1, rfl, ho1, hb1⟩; obtain ⟨bo, cp, rfl⟩ := (Rd.own ho1).form; have hj := hide (join_any _ A hs1 (unhide HS2) w1 (Rd.own ho1)); have B1 := hide hb1; clear ho1 hb1)
    | (go_at_call 72; refine (unhide hj).mono ?_; rintro e w2 ⟨rfl, hb2⟩; have B2 := hide hb2; clear hb2))
  go_ret2
  exact ⟨by rw [← HGT.out] <;> rfl, (unhide B1).trans ((unhide B2).mono (unhide B1).size)⟩

def viaN : ByteArray := ⟨#[86, 105, 97]⟩
def viaV (L : List Fld) (digits name : ByteArray) : ByteArray :=
  (((((if (allB L viaN).isEmpty = true then getB L viaN else getB L viaN ++ ⟨#[44, 32]⟩) ++ ⟨#[49, 46]⟩) ++ digits) ++ ⟨#[32]⟩) ++ name)
def viaF (L : List Fld) (digits name : ByteArray) : List Fld := setB L viaN (viaV L digits name)

end Go.Proofs.YtbpopmbabckojaaGreatDoor.Sp
end

/- The reference's Del. -/
section
namespace Go.Proofs.YtbpopmbabckojaaGreatDoor.Sp
open Go.RowKit Sl

theorem delF_take (L : List Fld) (name : ByteArray) (k : Nat) (h : k < L.length) : delF (L.take (k + 1)) name = delF (L.take k) name ++ if isN name L[k] then [] else [L[k]] := by
  unfold delF
  rw [List.take_succ_eq_append_getElem h, List.filter_append]
  congr 1
  cases hh : isN name L[k] <;> simp [hh]
theorem delF_len (L : List Fld) (name : ByteArray) : (delF L name).length ≤ L.length := List.length_filter_le _ _

set_option maxHeartbeats 2000000 in
theorem rdel_any (v : Value) (L : List Fld) (name : ByteArray) (hL : Few L) (hn : name.size ≤ 2000) (w : World) (hv : Rd w v L.length 2 (fldV L)) :
    Calls Tryz.prog 45 #[v, .string name] w (RetF w (delF L name)) := by
  obtain ⟨ao, cap, rfl⟩ := hv.form
  have HV := hide hv
  have HF := hide hL
  have hlen := hL.1
  have s2 : name.size ≤ 9223372036854775807 := by omega
  clear hv hL
  go_enter Tryz.func45, Tryz.ntmps45
  go_wp2_with fail
  go_loopw [5, 6] (fun v i wr => ∃ k : Nat, i = .int .i64 k ∧ k ≤ L.length ∧ Own w wr w.heap.size 55 2 v (delF (L.take k) name).length (fldV (delF (L.take k) name))) (fun _ i _ => L.length - (intOf i).toNat)
  case atStart => exact ⟨0, rfl, Nat.zero_le _, Own.start _ _ (Nat.le_refl _) _ _⟩
  case round =>
    obtain ⟨k, rfl, hk, ho⟩ := hrel
    obtain ⟨bo, cp, rfl⟩ := (Rd.own ho.own).form
    have HO := hide ho
    have hal := delF_len (L.take k) name
    rw [List.length_take] at hal
    rcases Nat.lt_or_ge k L.length with hlt | hge
    · have HT := Lib.hid (delF_take L name k hlt)
      have s1 : L[k].1.size ≤ 9223372036854775807 := by have := ((unhide HF).2 L[k] (List.getElem_mem _)).1; omega
      obtain ⟨b, off, rfl, hb, c1, c2⟩ := fld_cells (unhide HV) rfl k hlt
      have hbw : b < wr.heap.size := Nat.lt_of_lt_of_le hb ho.bel.size
      have d1 := (ho.bel.cell (p := ⟨b, off + k * 2, none⟩) hb).trans c1
      have d2 := (ho.bel.cell (p := ⟨b, off + k * 2 + 1, none⟩) hb).trans c2
      clear c1 c2 ho
      cases hsm : same L[k].1.data.toList name.data.toList
      · have hT : delF (L.take (k + 1)) name = delF (L.take k) name ++ [L[k]] := by rw [HT.out, if_neg (by unfold isN; rw [hsm]; decide)]
        have HT2 := Lib.hid hT
        clear hT
        go_wp2_with (first
          | (at_builtin; refine wpList_pushF (w0 := w) rfl _ _ rfl w.heap.size _ _ _ rfl (unhide H1) L[k].1 L[k].2 rfl _ rfl (by omega) ?_; intro v' w2 h2; obtain ⟨ao', cp', rfl⟩ := (Rd.own h2.own).form; have H2 := hide h2; clear h2)
          | (go_at_call 49; refine (rsame_any _ _ s1 s2 _).mono ?_; rintro e w1 ⟨rfl, hb1⟩; have d3 := (hb1.cell (p := ⟨b, off + k * 2, none⟩) hbw).trans d1; have d4 := (hb1.cell (p := ⟨b, off + k * 2 + 1, none⟩) hbw).trans d2; have H1 := hide ((unhide HO).call hb1); clear hb1))
        go_roundw
        case rel => exact ⟨k + 1, by go_num, by omega, by rw [HT2.out, List.length_append, fldV_app]; exact unhide H2⟩
        case measure => simp [intOf]; omega
      · have hT : delF (L.take (k + 1)) name = delF (L.take k) name := by rw [HT.out, if_pos (by unfold isN; rw [hsm]), List.append_nil]
        have HT2 := Lib.hid hT
        clear hT
        go_wp2_with (go_at_call 49; refine (rsame_any _ _ s1 s2 _).mono ?_; rintro e w1 ⟨rfl, hb1⟩; have H1 := hide ((unhide HO).call hb1); clear hb1)
        go_roundw
        case rel => exact ⟨k + 1, by go_num, by omega, by rw [HT2.out]; exact unhide H1⟩
        case measure => simp [intOf]; omega
    · have hT : delF (L.take k) name = delF L name := by rw [List.take_of_length_le hge]
      have HT := Lib.hid hT
      clear hT ho
      go_wp2_with fail
      go_ret
      refine ⟨_, rfl, ?_, (unhide HO).bel⟩
      have := (unhide HO).own
      rw [← HT.out]; exact this
end Go.Proofs.YtbpopmbabckojaaGreatDoor.Sp
end

/- A message that is light. -/
section
namespace Go.Proofs.YtbpopmbabckojaaGreatDoor.Sp
open Go.RowKit Sl

def sumF (L : List Fld) : Nat := (L.map fun f => f.1.size + f.2.size).sum
theorem sumF_take (L : List Fld) (k : Nat) (h : k < L.length) : sumF (L.take (k + 1)) = sumF (L.take k) + (L[k].1.size + L[k].2.size) := by
  unfold sumF
  rw [List.take_succ_eq_append_getElem h, List.map_append, List.sum_append]; simp
theorem sumF_mem {L : List Fld} {f : Fld} (h : f ∈ L) : f.1.size + f.2.size ≤ sumF L := by
  induction L with
  | nil => cases h
  | cons g t ih =>
    unfold sumF at ih ⊢
    rw [List.map_cons, List.sum_cons]
    rcases List.mem_cons.1 h with rfl | h
    · omega
    · have := ih h; omega
set_option maxRecDepth 100000 in
set_option maxHeartbeats 2000000 in
theorem lightF2_any (v : Value) (L : List Fld) (most bytes : Nat) (hL : L.length ≤ 9223372036854775807) (hb1 : most ≤ 1000) (hb2 : bytes ≤ 1000) (hf : ∀ f ∈ L, f.1.size ≤ 1000000000000000 ∧ f.2.size ≤ 1000000000000000) (w : World) (hv : Rd w v L.length 2 (fldV L)) :
    Calls Tryz.prog 58 #[v, .int .i64 most, .int .i64 bytes] w fun e w' => ∃ r, e = .returned (.bool r) ∧ (r = true → L.length ≤ most ∧ sumF L ≤ bytes) ∧ Below w.heap.size w w' := by
  obtain ⟨ao, cap, rfl⟩ := hv.form
  have HV := hide hv
  have HF := hide hf
  clear hv hf
  rcases Nat.lt_or_ge most L.length with hm | hm
  · go_enter Tryz.func58, Tryz.ntmps58
    go_wp2_with fail
    go_ret
    exact ⟨_, rfl, (by simp), Below.refl _ _⟩
  · go_enter Tryz.func58, Tryz.ntmps58
    go_wp2_with fail
    go_loopw [7, 8] (fun n i wr => ∃ k s : Nat, i = .int .i64 k ∧ n = .int .i64 s ∧ k ≤ L.length ∧ s ≤ bytes ∧ sumF (L.take k) = s ∧ Below w.heap.size w wr) (fun _ i _ => L.length - (intOf i).toNat)
    case atStart => exact ⟨0, 0, rfl, rfl, Nat.zero_le _, Nat.zero_le _, rfl, Below.refl _ _⟩
    case round =>
      obtain ⟨k, s, rfl, rfl, hk, hs, hall, hbel⟩ := hrel
      have HA := hide hall
      have HB := hide hbel
      rcases Nat.lt_or_ge k L.length with hlt | hge
      · obtain ⟨b, off, rfl, hb, c1, c2⟩ := fld_cells (unhide HV) rfl k hlt
        have d1 := (hbel.cell (p := ⟨b, off + k * 2, none⟩) hb).trans c1
        have d2 := (hbel.cell (p := ⟨b, off + k * 2 + 1, none⟩) hb).trans c2
        have z1 := ((unhide HF) L[k] (List.getElem_mem _)).1
        have z2 := ((unhide HF) L[k] (List.getElem_mem _)).2
        have HT := hide (sumF_take L k hlt)
        clear c1 c2 hall hbel
        have hbw : b < wr.heap.size := Nat.lt_of_lt_of_le hb (unhide HB).size
        go_wp2_with fail
        refine Reg.region_more (by kernel_rfl) (by kernel_rfl) ?_
        repeat (go_big_quiet_step (fail))
        refine wpQuiet_nil ?_
        intro w9 hb9; obtain ⟨hc9, hf9, hz9⟩ := bcell hb9; (try simp at hz9)
        have HB9 := hide ((unhide HB).trans (hb9.mono (unhide HB).size))
        clear hb9 hc9 hf9
        rcases Nat.lt_or_ge bytes (s + L[k].1.size + L[k].2.size) with hq | hq
        · go_wp2_with fail
          go_ret
          exact ⟨_, rfl, (by simp), unhide HB9⟩
        · go_wp2_with fail
          go_roundw
          case rel =>
            exact ⟨k + 1, s + L[k].1.size + L[k].2.size, by go_num, by go_num, by omega, by omega, by rw [unhide HT, unhide HA]; omega, unhide HB9⟩
          case measure => simp [intOf]; omega
      · have hT : L.take k = L := List.take_of_length_le hge
        have HT := Lib.hid hT
        clear hT hall hbel
        go_wp2_with fail
        go_ret
        refine ⟨_, rfl, fun _ => ⟨hm, ?_⟩, unhide HB⟩
        have := unhide HA
        rw [HT.out] at this
        omega


def LightA (me ta re bo : ByteArray) (F T : List Fld) : Prop := me.size ≤ 40 ∧ ta.size ≤ 200 ∧ re.size ≤ 100 ∧ bo.size ≤ 400 ∧ (F.length ≤ 20 ∧ sumF F ≤ 600) ∧ (T.length ≤ 10 ∧ sumF T ≤ 300)
def LightQ (P : Prop) (w : World) (e : Ending) (w' : World) : Prop := ∃ r, e = .returned (.bool r) ∧ (r = true → P) ∧ Below w.heap.size w w'

set_option maxRecDepth 100000 in
set_option maxHeartbeats 1000000 in
theorem lightA_any (me ta re bo : ByteArray) (st mi : Int) (fs tr : Value) (F T : List Fld) (h1 : me.size ≤ 9223372036854775807) (h2 : ta.size ≤ 9223372036854775807) (h3 : re.size ≤ 9223372036854775807) (h4 : bo.size ≤ 9223372036854775807)
    (hF : F.length ≤ 9223372036854775807) (hT : T.length ≤ 9223372036854775807) (hf : ∀ f ∈ F, f.1.size ≤ 1000000000000000 ∧ f.2.size ≤ 1000000000000000) (ht : ∀ f ∈ T, f.1.size ≤ 1000000000000000 ∧ f.2.size ≤ 1000000000000000) (w : World) (hv : Rd w fs F.length 2 (fldV F)) (hu : Rd w tr T.length 2 (fldV T)) :
    Calls Tryz.prog 36 #[.agg (msgV me ta st re mi fs bo tr)] w (LightQ (LightA me ta re bo F T) w) := by
  obtain ⟨ao, cap, rfl⟩ := hv.form
  obtain ⟨bo', caq, rfl⟩ := hu.form
  have hl1 := hide (fun w' (h : Below w.heap.size w w') => lightF2_any _ F 20 600 hF (by omega) (by omega) hf w' (hv.below h))
  have hl2 := hide (fun w' (h : Below w.heap.size w w') => lightF2_any _ T 10 300 hT (by omega) (by omega) ht w' (hu.below h))
  clear hv hu hf ht
  unfold LightQ
  have HB := hide ((Below.refl w.heap.size w).alloc (Nat.le_refl _) (.cells #[.string me, .string ta, .int .i64 st, .string re, .int .i64 mi, .slice ao F.length cap, .string bo, .slice bo' T.length caq] 24))
  have H := hide (Reg.Has.at w w.heap.size [.string me, .string ta, .int .i64 st, .string re, .int .i64 mi, .slice ao F.length cap, .string bo, .slice bo' T.length caq] 24 rfl)
  by_cases hok : me.size ≤ 40 ∧ ta.size ≤ 200 ∧ re.size ≤ 100 ∧ bo.size ≤ 400
  rotate_left
  · have hb : (decide ((me.size : Int) ≤ 40) = false) ∨ (decide ((me.size : Int) ≤ 40) = true ∧ decide ((ta.size : Int) ≤ 200) = false) ∨ (decide ((me.size : Int) ≤ 40) = true ∧ decide ((ta.size : Int) ≤ 200) = true ∧ decide ((re.size : Int) ≤ 100) = false) ∨ (decide ((me.size : Int) ≤ 40) = true ∧ decide ((ta.size : Int) ≤ 200) = true ∧ decide ((re.size : Int) ≤ 100) = true ∧ decide ((bo.size : Int) ≤ 400) = false) := by
      by_cases k1 : me.size ≤ 40
      · by_cases k2 : ta.size ≤ 200
        · by_cases k3 : re.size ≤ 100
          · exact .inr (.inr (.inr ⟨decide_eq_true (by omega), decide_eq_true (by omega), decide_eq_true (by omega), decide_eq_false (by omega)⟩))
          · exact .inr (.inr (.inl ⟨decide_eq_true (by omega), decide_eq_true (by omega), decide_eq_false (by omega)⟩))
        · exact .inr (.inl ⟨decide_eq_true (by omega), decide_eq_false (by omega)⟩)
      · exact .inl (decide_eq_false (by omega))
    clear hok
    unfold msgV
    rcases hb with g1 | ⟨g1, g2⟩ | ⟨g1, g2, g3⟩ | ⟨g1, g2, g3, g4⟩
    all_goals
      go_enter Tryz.func36, Tryz.ntmps36
      go_wp2_with fail
      go_ret
      exact ⟨_, rfl, (by simp), unhide HB⟩
  have g1 : decide ((me.size : Int) ≤ 40) = true := decide_eq_true (by omega)
  have g2 : decide ((ta.size : Int) ≤ 200) = true := decide_eq_true (by omega)
  have g3 : decide ((re.size : Int) ≤ 100) = true := decide_eq_true (by omega)
  have g4 : decide ((bo.size : Int) ≤ 400) = true := decide_eq_true (by omega)
  have HOK := hide hok
  clear hok
  unfold msgV
  go_enter Tryz.func36, Tryz.ntmps36
  go_wp2_with fail
  refine (unhide hl1 _ (unhide HB)).mono ?_; rintro e w1 ⟨r1, rfl, hr1, hb1⟩
  have HR1 := hide hr1
  have HB1 := hide ((unhide HB).trans (hb1.mono (unhide HB).size))
  have p7 := ((unhide H).call hb1).cell 7 _ rfl
  clear hb1 hr1
  cases r1
  · go_wp2_with fail
    go_ret
    exact ⟨_, rfl, (by simp), unhide HB1⟩
  go_wp2_with fail
  refine (unhide hl2 _ (unhide HB1)).mono ?_; rintro e w2 ⟨r2, rfl, hr2, hb2⟩
  have HR2 := hide hr2
  have HB2 := hide ((unhide HB1).trans (hb2.mono (unhide HB1).size))
  clear hb2 hr2
  go_wp2_with fail
  go_ret
  exact ⟨r2, rfl, fun h => by
    obtain ⟨a, b, c, d⟩ := unhide HOK
    exact ⟨a, b, c, d, unhide HR1 (by first | rfl | trivial), unhide HR2 h⟩, unhide HB2⟩

set_option maxRecDepth 100000 in
set_option maxHeartbeats 1000000 in
theorem light8_any (me ta re bo : ByteArray) (st mi : Int) (fs tr : Value) (F T : List Fld) (h1 : me.size ≤ 9223372036854775807) (h2 : ta.size ≤ 9223372036854775807) (h3 : re.size ≤ 9223372036854775807) (h4 : bo.size ≤ 9223372036854775807)
    (hF : F.length ≤ 9223372036854775807) (hT : T.length ≤ 9223372036854775807) (hf : ∀ f ∈ F, f.1.size ≤ 1000000000000000 ∧ f.2.size ≤ 1000000000000000) (ht : ∀ f ∈ T, f.1.size ≤ 1000000000000000 ∧ f.2.size ≤ 1000000000000000) (w : World) (hv : Rd w fs F.length 2 (fldV F)) (hu : Rd w tr T.length 2 (fldV T)) :
    Calls Tryz.prog 9 #[.agg (msgV me ta st re mi fs bo tr)] w (LightQ (LightA me ta re bo F T) w) := by
  have hc := hide (fun w' (h : Below w.heap.size w w') => lightA_any me ta re bo st mi fs tr F T h1 h2 h3 h4 hF hT hf ht w' (hv.below h) (hu.below h))
  have HB0 := hide (fun o => (Below.refl w.heap.size w).alloc (Nat.le_refl _) o)
  clear hv hu hf ht
  unfold msgV at hc ⊢
  unfold LightQ at hc ⊢
  go_enter Tryz.func9, Tryz.ntmps9
  go_wp2_with (go_at_call 36; refine (unhide hc _ (unhide HB0 _)).mono ?_; rintro e w2 ⟨r, rfl, hr, hb2⟩; have HR := hide hr; have HB2 := hide hb2; clear hr hb2)
  go_ret
  exact ⟨_, rfl, unhide HR, (unhide HB0 _).trans ((unhide HB2).mono (by simp))⟩
end Go.Proofs.YtbpopmbabckojaaGreatDoor.Sp
end
