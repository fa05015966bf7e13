/- Lemmas for the statement's proof, several texts in one: Q3. -/
import Derived.Test.YtbpopmbabckojaaGreatDoorZ10
import Derived.Test.YtbpopmbabckojaaGreatDoorZ12
import Derived.Test.YtbpopmbabckojaaGreatDoorZ14
import Derived.Test.YtbpopmbabckojaaGreatDoorZ09
import Derived.Test.YtbpopmbabckojaaGreatDoorZ15
set_option linter.unusedVariables false
set_option linter.unusedSimpArgs false
/- Plain: what the reference's parser sees of a head, all of it or a first part. -/
section
namespace Go.Proofs.YtbpopmbabckojaaGreatDoor.Sp
open Go.RowKit Sl

/-- neither of a line's ends -/
def noEnd (x : List UInt8) : Prop := ∀ c ∈ x, c ≠ 10 ∧ c ≠ 13
theorem noEnd_tail {c : UInt8} {x : List UInt8} (h : noEnd (c :: x)) : noEnd x := fun d hd => h d (List.mem_cons_of_mem _ hd)
theorem noEnd_app {x y : List UInt8} (h : noEnd x) (k : noEnd y) : noEnd (x ++ y) := fun c hc => (List.mem_append.1 hc).elim (h c) (k c)

theorem lnG_part (most long : Nat) : ∀ (x : List UInt8) (i k : Nat), noEnd x → k < x.length + 2 → i + k < most → lnG most long i false ((x ++ [13, 10]).take k) = (0, 0)
  | [], i, 0, _, _, h => by simp only [List.take_zero, lnG]; rw [if_neg (by omega)]
  | [], i, 1, _, _, h => by
    show lnG most long i false [13] = _
    simp only [lnG]
    rw [if_neg (by omega), if_neg (by decide), if_neg (by decide), if_neg (by omega)]
  | [], i, k + 2, _, hk, _ => by simp only [List.length_nil] at hk; omega
  | c :: x, i, 0, _, _, h => by simp only [List.take_zero, lnG]; rw [if_neg (by omega)]
  | c :: x, i, k + 1, hx, hk, h => by
    have hc := hx c List.mem_cons_self
    have h10 : (c == 10) = false := beq_eq_false_iff_ne.2 hc.1
    have h13 : (c == 13) = false := beq_eq_false_iff_ne.2 hc.2
    rw [List.cons_append, List.take_succ_cons]
    simp only [lnG]
    rw [if_neg (by omega), h10, h13, if_neg (by decide), if_neg (by decide)]
    exact lnG_part most long x (i + 1) k (noEnd_tail hx) (by simp at hk; omega) (by omega)
theorem lnG_whole (most long : Nat) : ∀ (x : List UInt8) (i : Nat) (rest : List UInt8), noEnd x → i + x.length + 2 ≤ most → lnG most long i false (x ++ [13, 10] ++ rest) = (i + x.length + 2, 0)
  | [], i, rest, _, h => by
    show lnG most long i false (13 :: 10 :: rest) = _
    simp only [List.length_nil] at h
    simp only [lnG]
    rw [if_neg (by omega), if_neg (by decide), if_neg (by decide), if_neg (by omega), if_neg (by decide), if_pos (by decide)]
    simp
  | c :: x, i, rest, hx, h => by
    have hc := hx c List.mem_cons_self
    have h10 : (c == 10) = false := beq_eq_false_iff_ne.2 hc.1
    have h13 : (c == 13) = false := beq_eq_false_iff_ne.2 hc.2
    simp only [List.length_cons] at h
    rw [List.cons_append, List.cons_append]
    simp only [lnG]
    rw [if_neg (by omega), h10, h13, if_neg (by decide), if_neg (by decide), lnG_whole most long x (i + 1) rest (noEnd_tail hx) (by omega)]
    simp only [List.length_cons, Prod.mk.injEq, and_true]
    omega
theorem lnS_part (most long : Nat) (x : List UInt8) (k : Nat) (hx : noEnd x) (hk : k < x.length + 2) (h : x.length + 2 ≤ most) : lnS most long ((x ++ [13, 10]).take k) = (0, 0) := lnG_part most long x 0 k hx hk (by omega)
theorem lnS_whole (most long : Nat) (x rest : List UInt8) (hx : noEnd x) (h : x.length + 2 ≤ most) : lnS most long (x ++ [13, 10] ++ rest) = (x.length + 2, 0) := by
  unfold lnS
  rw [lnG_whole most long x 0 rest hx (by omega), Nat.zero_add]
theorem lnT_whole (most long : Nat) (x rest : List UInt8) (hx : noEnd x) (h : x.length + 2 ≤ most) : lnT most long (x ++ [13, 10] ++ rest) = ofL x := by
  unfold lnT
  rw [lnS_whole most long x rest hx h, show (x.length + 2, 0).1 - 2 = x.length by simp, List.append_assoc, List.take_left]

/-- a message's head, as it is read -/
structure Hd where
  me : ByteArray
  ta : ByteArray
  re : ByteArray
  st : Int
  mi : Int
  F : List Fld
def Hd.none : Hd := ⟨⟨#[]⟩, ⟨#[]⟩, ⟨#[]⟩, 0, 0, []⟩
/-- a first line, read: of responses, of requests -/
def firstS (resp : Bool) (l : ByteArray) : Hd × Int :=
  if resp = true then (if (stS l.data.toList).2.2.2 = 0 then (⟨⟨#[]⟩, ⟨#[]⟩, ofL (stS l.data.toList).2.2.1, (stS l.data.toList).2.1, (stS l.data.toList).1, []⟩, 0) else (Hd.none, 400))
  else (⟨ofL (req l.data.toList).1, ofL (req l.data.toList).2.1, ⟨#[]⟩, 0, (req l.data.toList).2.2.1, []⟩, (req l.data.toList).2.2.2)
def hostN : ByteArray := ⟨#[72, 111, 115, 116]⟩
/-- the fields Host that a request must have -/
def hostM (m : Hd) : Bool :=
  match allB m.F hostN with
  | [] => m.mi == 0
  | a :: t => t.isEmpty && (a.toList.isEmpty || (portS a.data.toList).2)
/-- the head of what came: where it ends (0: more must come), the status -/
def hdG (resp : Bool) (L H C : Nat) : Nat → List UInt8 → Nat → Bool → Hd → Hd × Nat × Int
  | 0, _, _, _, m => (m, 0, 0)
  | f + 1, b, at_, begun, m =>
    if (lnS L 431 b).2 ≠ 0 then (m, 0, (lnS L 431 b).2)
    else if H < at_ + max (lnS L 431 b).1 (if (lnS L 431 b).1 = 0 then b.length else 0) then (m, 0, 431)
    else if (lnS L 431 b).1 = 0 then (m, 0, 0)
    else if begun = false then
      (if (lnT L 431 b).toList.isEmpty = true ∧ resp = false ∧ at_ + (lnS L 431 b).1 = 2 then hdG resp L H C f (b.drop (lnS L 431 b).1) (at_ + (lnS L 431 b).1) false m
       else if (firstS resp (lnT L 431 b)).2 ≠ 0 then ((firstS resp (lnT L 431 b)).1, 0, (firstS resp (lnT L 431 b)).2)
       else hdG resp L H C f (b.drop (lnS L 431 b).1) (at_ + (lnS L 431 b).1) true (firstS resp (lnT L 431 b)).1)
    else if (lnT L 431 b).toList.isEmpty = true then (if resp = false ∧ hostM m = false then (m, 0, 400) else (m, at_ + (lnS L 431 b).1, 0))
    else if lineB (lnT L 431 b) = false then (m, 0, 400)
    else if C ≤ m.F.length then (m, 0, 431)
    else hdG resp L H C f (b.drop (lnS L 431 b).1) (at_ + (lnS L 431 b).1) true { m with F := m.F ++ [lineF (lnT L 431 b)] }
def hdS (resp : Bool) (L H C : Nat) (b : List UInt8) : Hd × Nat × Int := hdG resp L H C (b.length + 1) b 0 false Hd.none

theorem ends_ne : ([13, 10] : List UInt8).length = 2 := rfl
theorem drop_whole (x rest : List UInt8) : (x ++ [13, 10] ++ rest).drop (x.length + 2) = rest := by
  rw [show x.length + 2 = (x ++ [13, 10]).length by simp, List.drop_left]
theorem emp_of {l : List UInt8} (h : l ≠ []) : (ofL l).toList.isEmpty = false := by
  rw [Lib.toList_data, ofL_data]
  cases l with
  | nil => exact absurd rfl h
  | cons a t => rfl
theorem lineZ_data (f : Fld) : (lineZ f).data.toList = f.1.data.toList ++ [58, 32] ++ f.2.data.toList := by
  unfold lineZ
  rw [app_data, app_data]
theorem line1_end (f : Fld) : (line1 f).data.toList = (lineZ f).data.toList ++ [13, 10] := by
  rw [line1_data, lineZ_data]
theorem linesL_cons (f : Fld) (G : List Fld) : linesL (f :: G) = (lineZ f).data.toList ++ [13, 10] ++ linesL G := by
  unfold linesL
  rw [List.flatMap_cons, line1_end]
theorem lineZ_ne (f : Fld) : (lineZ f).data.toList ≠ [] := by rw [lineZ_data]; simp
theorem chr_noEnd : ∀ c : UInt8, chr c = true → c ≠ 10 ∧ c ≠ 13 := by
  intro c h
  have := byte_all (fun c => !chr c || (c != 10 && c != 13)) (by decide +kernel) c
  rw [h] at this
  simpa using this
theorem tch_noEnd : ∀ c : UInt8, tch c = true → c ≠ 10 ∧ c ≠ 13 := by
  intro c h
  have := byte_all (fun c => !tch c || (c != 10 && c != 13)) (by decide +kernel) c
  rw [h] at this
  simpa using this
theorem seen_noEnd : ∀ c : UInt8, seenB c = true → c ≠ 10 ∧ c ≠ 13 := by
  intro c h
  have := byte_all (fun c => !seenB c || (c != 10 && c != 13)) (by decide +kernel) c
  rw [h] at this
  simpa using this
theorem all_noEnd {q : UInt8 → Bool} (hq : ∀ c, q c = true → c ≠ 10 ∧ c ≠ 13) {l : List UInt8} (h : l.all q = true) : noEnd l := fun c hc => hq c (List.all_eq_true.1 h c hc)
theorem line_noEnd {f : Fld} (h : chkS f = true) : noEnd (lineZ f).data.toList := by
  unfold chkS at h
  rw [Bool.and_eq_true, Bool.and_eq_true] at h
  unfold tokenS at h
  rw [Bool.and_eq_true] at h
  rw [lineZ_data]
  exact noEnd_app (noEnd_app (all_noEnd tch_noEnd h.1.1.2) (by intro c hc; simp at hc; rcases hc with rfl | rfl <;> decide)) (all_noEnd chr_noEnd h.1.2)

section
variable {resp : Bool} {L H C : Nat}

/-- a line's first part: more must come -/
theorem hdG_part (f : Nat) (x : List UInt8) (k at_ : Nat) (bg : Bool) (m : Hd) (hx : noEnd x) (hk : k < x.length + 2) (hL : x.length + 2 ≤ L) (hH : at_ + k ≤ H) : (hdG resp L H C f ((x ++ [13, 10]).take k) at_ bg m).2 = (0, 0) := by
  cases f with
  | zero => rfl
  | succ f =>
    have h1 := lnS_part L 431 x k hx hk hL
    have hl : ((x ++ [13, 10]).take k).length = k := by rw [List.length_take]; simp; omega
    simp only [hdG]
    rw [h1, hl]
    simp only [ne_eq, not_true_eq_false, if_false, if_true]
    rw [if_neg (by omega)]
/-- one field's line -/
theorem hdG_field (f : Nat) (g : Fld) (rest : List UInt8) (at_ : Nat) (m : Hd) (hg : chkS g = true) (hL : g.1.size + g.2.size + 4 ≤ L) (hH : at_ + (g.1.size + g.2.size + 4) ≤ H) (hC : m.F.length < C) :
    hdG resp L H C (f + 1) ((lineZ g).data.toList ++ [13, 10] ++ rest) at_ true m = hdG resp L H C f rest (at_ + (g.1.size + g.2.size + 4)) true { m with F := m.F ++ [g] } := by
  have hz : (lineZ g).data.toList.length = g.1.size + g.2.size + 2 := by rw [← lineZ_size g]; simp
  have h1 := lnS_whole L 431 (lineZ g).data.toList rest (line_noEnd hg) (by omega)
  have h2 := lnT_whole L 431 (lineZ g).data.toList rest (line_noEnd hg) (by omega)
  rw [ofL_of] at h2
  have h3 := lineF_back g hg
  have h4 : (lineZ g).toList.isEmpty = false := by have := emp_of (lineZ_ne g); rwa [ofL_of] at this
  have h5 := drop_whole (lineZ g).data.toList rest
  generalize hb : (lineZ g).data.toList ++ [13, 10] ++ rest = b at h1 h2 h5 ⊢
  rw [hz] at h1 h5
  simp only [hdG]
  rw [h1, h2, h3.1, h3.2, h4]
  rw [h5]
  simp only [ne_eq, not_true_eq_false, if_false, if_true, Bool.true_eq_false, Bool.false_eq_true]
  rw [if_neg (by rw [if_neg (by omega)]; omega), if_neg (by omega), if_neg (by omega), show g.1.size + g.2.size + 2 + 2 = g.1.size + g.2.size + 4 by omega]
/-- the fields, and the head's end -/
theorem hdG_fields : ∀ (G : List Fld) (f at_ : Nat) (m : Hd) (rest : List UInt8), G.all chkS = true → (∀ g ∈ G, g.1.size + g.2.size + 4 ≤ L) → at_ + (linesL G).length + 2 ≤ H → m.F.length + G.length ≤ C → (resp = true ∨ hostM { m with F := m.F ++ G } = true) → G.length < f → 2 ≤ L →
    hdG resp L H C f (linesL G ++ [13, 10] ++ rest) at_ true m = ({ m with F := m.F ++ G }, at_ + (linesL G).length + 2, 0)
  | [], 0, _, _, _, _, _, _, _, _, hf, _ => absurd hf (by simp)
  | [], f + 1, at_, m, rest, _, _, hH, hC, ho, _, hL2 => by
    have h1 := lnS_whole L 431 [] rest (by intro c hc; cases hc) (by simpa using hL2)
    have h2 := lnT_whole L 431 [] rest (by intro c hc; cases hc) (by simpa using hL2)
    have e : linesL [] = [] := rfl
    rw [e] at hH ⊢
    simp only [List.length_nil] at hH h1 ⊢
    have hm : ({ m with F := m.F ++ [] } : Hd) = m := by cases m; simp
    rw [hm] at ho ⊢
    simp only [hdG]
    rw [h1, h2]
    simp only [ne_eq, not_true_eq_false, if_false, Bool.true_eq_false]
    rw [if_neg (by simp; omega), if_neg (by omega), if_pos (by rw [Lib.toList_data]; rfl), if_neg (by rcases ho with h | h <;> simp [h])]
  | g :: G, 0, _, _, _, _, _, _, _, _, hf, _ => absurd hf (by simp)
  | g :: G, f + 1, at_, m, rest, hg, hs, hH, hC, ho, hf, hL2 => by
    rw [List.all_cons, Bool.and_eq_true] at hg
    have hl : (linesL (g :: G)).length = g.1.size + g.2.size + 4 + (linesL G).length := by
      have hz : (lineZ g).data.toList.length = g.1.size + g.2.size + 2 := by rw [← lineZ_size g]; simp
      rw [linesL_cons]; simp only [List.length_append, hz, ends_ne]
    rw [hl] at hH ⊢
    simp only [List.length_cons] at hC hf
    have e : linesL (g :: G) ++ [13, 10] ++ rest = (lineZ g).data.toList ++ [13, 10] ++ (linesL G ++ [13, 10] ++ rest) := by rw [linesL_cons]; simp
    rw [e, hdG_field f g _ at_ m hg.1 (hs g List.mem_cons_self) (by omega) (by omega)]
    have hm : ({ ({ m with F := m.F ++ [g] } : Hd) with F := ({ m with F := m.F ++ [g] } : Hd).F ++ G } : Hd) = { m with F := m.F ++ (g :: G) } := by simp
    rw [hdG_fields G f (at_ + (g.1.size + g.2.size + 4)) { m with F := m.F ++ [g] } rest hg.2 (fun x hx => hs x (List.mem_cons_of_mem _ hx)) (by omega) (by simp; omega) (by rw [hm]; exact ho) (by omega) hL2, hm]
    simp only [Prod.mk.injEq, and_true, true_and]
    omega
theorem hdG_fields_part : ∀ (G : List Fld) (f at_ k : Nat) (m : Hd), G.all chkS = true → (∀ g ∈ G, g.1.size + g.2.size + 4 ≤ L) → at_ + (linesL G).length + 2 ≤ H → m.F.length + G.length ≤ C → 2 ≤ L → k < (linesL G).length + 2 →
    (hdG resp L H C f ((linesL G ++ [13, 10]).take k) at_ true m).2 = (0, 0)
  | [], f, at_, k, m, _, _, hH, _, hL2, hk => by
    have e : linesL [] = [] := rfl
    rw [e] at hH hk ⊢
    simp only [List.length_nil] at hH hk
    exact hdG_part f [] k at_ true m (by intro c hc; cases hc) (by simpa using hk) (by simpa using hL2) (by omega)
  | g :: G, f, at_, k, m, hg, hs, hH, hC, hL2, hk => by
    rw [List.all_cons, Bool.and_eq_true] at hg
    have hz : (lineZ g).data.toList.length = g.1.size + g.2.size + 2 := by rw [← lineZ_size g]; simp
    have hl : (linesL (g :: G)).length = g.1.size + g.2.size + 4 + (linesL G).length := by
      rw [linesL_cons]; simp only [List.length_append, hz, ends_ne]
    rw [hl] at hH hk
    simp only [List.length_cons] at hC
    have h4 := hs g List.mem_cons_self
    have e : linesL (g :: G) ++ [13, 10] = ((lineZ g).data.toList ++ [13, 10]) ++ (linesL G ++ [13, 10]) := by rw [linesL_cons]; simp
    have hzl : ((lineZ g).data.toList ++ [13, 10]).length = g.1.size + g.2.size + 4 := by rw [List.length_append, hz]; rfl
    rw [e]
    rcases Nat.lt_or_ge k (g.1.size + g.2.size + 4) with h1 | h1
    · rw [List.take_append_of_le_length (by omega)]
      exact hdG_part f _ k at_ true m (line_noEnd hg.1) (by omega) (by omega) (by omega)
    · rw [List.take_append, List.take_of_length_le (by omega), hzl]
      cases f with
      | zero => rfl
      | succ f =>
        rw [hdG_field f g _ at_ m hg.1 h4 (by omega) (by omega)]
        exact hdG_fields_part G f _ _ _ hg.2 (fun x hx => hs x (List.mem_cons_of_mem _ hx)) (by omega) (by simp; omega) hL2 (by omega)

/-- what is written as a head: a first line and fields -/
def headL (x : List UInt8) (G : List Fld) : List UInt8 := x ++ [13, 10] ++ linesL G ++ [13, 10]
theorem headL_len (x : List UInt8) (G : List Fld) : (headL x G).length = x.length + (linesL G).length + 4 := by unfold headL; simp; omega
theorem linesL_ge (G : List Fld) : G.length ≤ (linesL G).length := by
  induction G with
  | nil => simp
  | cons g G ih =>
    rw [linesL_cons]
    simp only [List.length_cons, List.length_append, List.length_nil]
    omega

theorem hdS_whole (x : List UInt8) (G : List Fld) (m : Hd) (rest : List UInt8) (hx : noEnd x) (hne : x ≠ []) (hf : firstS resp (ofL x) = (m, 0)) (hm : m.F = []) (hL : x.length + 2 ≤ L) (hG : G.all chkS = true) (hs : ∀ g ∈ G, g.1.size + g.2.size + 4 ≤ L) (hH : (headL x G).length ≤ H) (hC : G.length ≤ C) (ho : resp = true ∨ hostM { m with F := G } = true) :
    hdS resp L H C (headL x G ++ rest) = ({ m with F := G }, (headL x G).length, 0) := by
  have e : headL x G ++ rest = x ++ [13, 10] ++ (linesL G ++ [13, 10] ++ rest) := by unfold headL; simp
  have hn : G.length < (headL x G ++ rest).length := by
    rw [List.length_append, headL_len]
    have := linesL_ge G
    omega
  rw [headL_len] at hH
  have h1 := lnS_whole L 431 x (linesL G ++ [13, 10] ++ rest) hx hL
  have h2 := lnT_whole L 431 x (linesL G ++ [13, 10] ++ rest) hx hL
  have h5 := drop_whole x (linesL G ++ [13, 10] ++ rest)
  unfold hdS
  generalize (headL x G ++ rest).length = n at hn ⊢
  rw [e]
  generalize hb : x ++ [13, 10] ++ (linesL G ++ [13, 10] ++ rest) = b at h1 h2 h5 ⊢
  simp only [hdG]
  rw [h1, h2, h5, emp_of hne, hf]
  simp only [ne_eq, not_true_eq_false, if_false, if_true, Bool.false_eq_true, false_and]
  rw [if_neg (by rw [if_neg (by omega)]; omega), if_neg (by omega)]
  have hm2 : ({ m with F := m.F ++ G } : Hd) = { m with F := G } := by rw [hm, List.nil_append]
  rw [hdG_fields G n (0 + (x.length + 2)) m rest hG hs (by omega) (by rw [hm]; simpa using hC) (by rw [hm2]; exact ho) hn (by omega), hm2, headL_len]
  simp only [Prod.mk.injEq, and_true, true_and]
  omega
theorem hdS_part (x : List UInt8) (G : List Fld) (m : Hd) (k : Nat) (hx : noEnd x) (hne : x ≠ []) (hf : firstS resp (ofL x) = (m, 0)) (hm : m.F = []) (hL : x.length + 2 ≤ L) (hG : G.all chkS = true) (hs : ∀ g ∈ G, g.1.size + g.2.size + 4 ≤ L) (hH : (headL x G).length ≤ H) (hC : G.length ≤ C) (hk : k < (headL x G).length) :
    (hdS resp L H C ((headL x G).take k)).2 = (0, 0) := by
  rw [headL_len] at hH hk
  have e : headL x G = (x ++ [13, 10]) ++ (linesL G ++ [13, 10]) := by unfold headL; simp
  have hxl : (x ++ [13, 10]).length = x.length + 2 := by simp
  unfold hdS
  generalize ((headL x G).take k).length = n
  rw [e]
  rcases Nat.lt_or_ge k (x.length + 2) with h | h
  · rw [List.take_append_of_le_length (by omega)]
    exact hdG_part _ x k 0 false _ hx h hL (by omega)
  · rw [List.take_append, List.take_of_length_le (by omega), hxl]
    generalize hr : (linesL G ++ [13, 10]).take (k - (x.length + 2)) = rest
    have h1 := lnS_whole L 431 x rest hx hL
    have h2 := lnT_whole L 431 x rest hx hL
    have h5 := drop_whole x rest
    generalize hb : x ++ [13, 10] ++ rest = b at h1 h2 h5 ⊢
    simp only [hdG]
    rw [h1, h2, h5, emp_of hne, hf]
    simp only [ne_eq, not_true_eq_false, if_false, if_true, Bool.false_eq_true, false_and]
    rw [if_neg (by rw [if_neg (by omega)]; omega), if_neg (by omega), ← hr]
    exact hdG_fields_part G n _ _ m hG hs (by omega) (by rw [hm]; simpa using hC) (by omega) (by omega)
end
end Go.Proofs.YtbpopmbabckojaaGreatDoor.Sp
end
