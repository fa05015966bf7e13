/- field.Line; the example that is asked first. -/
import Derived.Test.YtfohhhdebinikaaGreatDoorF1
namespace Go.Proofs.YtfohhhdebinikaaGreatDoor.Sp
open Go.RowKit Sl

section
variable {ops : Array Oper} {rest : List Oper} {o : Oper} {a : Act} {w : World} {Q : Exit → Act → World → Prop}
theorem infoF : (Tryz.prog.info? 30).map (·.size) = some 2 := by kernel_rfl
theorem wpList_loadF (hgd : o.guard = none) (x : Operand) (ho : o.op = .load 30 x) (b : Nat) (hx : a.eval x = .pointer (some ⟨b, 0, none⟩)) (vs : List Value) (hl : vs.length = 2) (H : Reg.Has w b vs)
    (h : wpList Tryz.prog ops Q rest (a.put o.dst (.agg vs.toArray)) w) : wpList Tryz.prog ops Q (o :: rest) a w :=
  wpList_load_mid hgd 30 x ho b 0 hx vs _ (has_range H) Tryz.underlying30 rfl (by rw [infoF, hl]) h
theorem wpList_storeF (hgd : o.guard = none) (x y : Operand) (ho : o.op = .store 30 x y) (b : Nat) (hx : a.eval x = .pointer (some ⟨b, 0, none⟩)) (cells : Array Value) (hc : cells.size = 2) (hy : a.eval y = .agg cells) (old : List Value) (hl : old.length = 2) (H : Reg.Has w b old) (h1 : cells.all (·.oneCell') = true)
    (h : Reg.Has (w.setCells b 0 cells.toList) b cells.toList → wpList Tryz.prog ops Q rest (a.put o.dst undef) (w.setCells b 0 cells.toList)) : wpList Tryz.prog ops Q (o :: rest) a w := by
  have ht : w.there b 0 cells.size := by have := has_there H; rw [hl] at this; rw [hc]; exact this
  exact wpList_store_mid hgd 30 x y ho b 0 cells hx hy ht (by rw [infoF, hc]) h1 (h (has_setCells (by simp) ht H.lt (fun o w => size_setCells _ _ _ _)))
theorem run_loadF (b : Nat) (cells : Array Value) (hc : cells.size = 2) (H : Reg.Has w b cells.toList) : (loadVar 30 ⟨b, 0, none⟩).run Tryz.prog w = .ok (.agg cells) w :=
  run_loadVar_mid (P := Tryz.prog) w b 0 30 cells.toList _ (has_range H) Tryz.underlying30 rfl (by rw [infoF]; simp [hc])
end

def lineF (s : ByteArray) : Fld := (ofL (cutS 58 s.data.toList).1, ofL (trimW (cutS 58 s.data.toList).2.1))
def lineB (s : ByteArray) : Bool := (cutS 58 s.data.toList).2.2 && chkS (lineF s)
theorem lineF_size (s : ByteArray) : (lineF s).1.size ≤ s.size ∧ (lineF s).2.size ≤ s.size := by
  have h := cutS_len 58 s.data.toList
  have hs : s.data.toList.length = s.size := by simp
  have h2 := trim_len (cutS 58 s.data.toList).2.1
  unfold lineF
  refine ⟨?_, ?_⟩
  · show (ofL _).size ≤ _
    rw [size_list (l := (cutS 58 s.data.toList).1) rfl]; omega
  · show (ofL _).size ≤ _
    rw [size_list (l := trimW (cutS 58 s.data.toList).2.1) rfl]; omega

def fldOut (f : Fld) (ok : Bool) (e : Ending) : Prop := e = .returned (.tuple #[.agg #[.string (if ok = true then f.1 else ⟨#[]⟩), .string (if ok = true then f.2 else ⟨#[]⟩)], .int .i64 (errI ok)])

set_option maxRecDepth 100000 in
set_option maxHeartbeats 2000000 in
theorem line_any (s : ByteArray) (hs : s.size ≤ 1000000) (w : World) (hM : MaxV w) :
    Calls Tryz.prog 13 #[.string s] w fun e w' => fldOut (lineF s) (lineB s) e ∧ Below w.heap.size w w' := by
  obtain ⟨hz1, hz2⟩ := lineF_size s
  obtain ⟨is, his⟩ : ∃ is, (cutS 58 s.data.toList).2.2 = is := ⟨_, rfl⟩
  obtain ⟨r, hr⟩ : ∃ r : ByteArray, ofL (cutS 58 s.data.toList).2.1 = r := ⟨_, rfl⟩
  have hrl : r.data.toList = (cutS 58 s.data.toList).2.1 := by rw [← hr]; rfl
  have hrz : r.size ≤ s.size := by rw [size_list hrl]; have := (cutS_len 58 s.data.toList).2; simpa using this
  obtain ⟨⟨x, y⟩, hf⟩ : ∃ f, lineF s = f := ⟨_, rfl⟩
  have hx : x.data.toList = (cutS 58 s.data.toList).1 := by have := congrArg Prod.fst hf; rw [show x = ofL (cutS 58 s.data.toList).1 from this.symm]; rfl
  have hy : ofL (trimW r.data.toList) = y := by have := congrArg Prod.snd hf; rw [hrl]; exact this
  have hB : lineB s = (is && chkS (x, y)) := by unfold lineB; rw [his, hf]
  obtain ⟨ok, hok⟩ : ∃ ok, chkS (x, y) = ok := ⟨_, rfl⟩
  rw [hf] at hz1 hz2 ⊢
  rw [hB, hok]
  have hzx : x.size ≤ 1000000 := Nat.le_trans hz1 hs
  have hzy : y.size ≤ 1000000 := Nat.le_trans hz2 hs
  have HC := hide (fun w (h : MaxV w) => cut_any s 58 x r is hx hrl his.symm (by omega) w h)
  have ht := fun w => trim_any r (by omega) w
  rw [hy] at ht
  have HT := hide ht
  have hk := fun w => check_any x y hzx hzy w
  rw [hok] at hk
  have HK := hide hk
  have HM := hide hM
  clear ht hk hM hx hy hB hok hf hr hrl his hz1 hz2
  unfold fldOut
  go_enter Tryz.func13, Tryz.ntmps13
  go_upto_region 3 with (first
    | (go_at_call 44; refine (unhide HC _ ((unhide HM).below ((Below.refl _ _).alloc (Nat.le_refl _) _))).mono ?_; rintro e w1 ⟨rfl, hb1⟩; have HR := hide ((Reg.Has.new w [.string ⟨#[]⟩, .string ⟨#[]⟩] 30).call hb1); have HB := hide (((Below.refl w.heap.size w).alloc (Nat.le_refl _) (.cells #[.string ⟨#[]⟩, .string ⟨#[]⟩] 30)).trans (hb1.mono (by simp))); clear hb1)
    | (go_at_call 43; refine (unhide HT _).mono ?_; rintro e w2 ⟨rfl, hb2⟩; have HR := hide ((unhide HR).call hb2); have HB := hide ((unhide HB).trans (hb2.mono (unhide HB).size)); clear hb2))
  have HF := hide (Reg.Has.new w2 [.string x, .string y] 30)
  have HR := hide ((unhide HR).alloc (.cells #[.string x, .string y] 30))
  have HB := hide ((unhide HB).alloc (unhide HB).size (.cells #[.string x, .string y] 30))
  have zr := (unhide HR).lt
  have zf := (unhide HF).lt
  generalize w2.alloc (.cells #[.string x, .string y] 30) = w3 at HF HR HB zr zf ⊢
  generalize w2.heap.size = gf at *
  have p10 := (unhide HF).cell 0 _ rfl
  have p11 := (unhide HF).cell 1 _ rfl
  unfold errI at HK
  cases is
  · go_wp2_with (first
      | (refine wpList_storeF rfl _ _ rfl w.heap.size rfl #[.string ⟨#[]⟩, .string ⟨#[]⟩] rfl rfl _ rfl (unhide HR) (by kernel_rfl) ?_; intro HZ; have HBZ := below_setCells w.heap.size (Nat.le_refl _) (#[.string ⟨#[]⟩, .string ⟨#[]⟩]).toList 0 _ (unhide HB); generalize World.setCells _ w.heap.size 0 _ = w9 at HZ HBZ ⊢; have ZZ := hide HZ; have BZ := hide HBZ; clear HZ HBZ)
      | (refine wpList_loadF rfl _ rfl gf rfl _ rfl (unhide HF) ?_)
      | (go_at_call 12; refine (unhide HK _).mono ?_; rintro e w4 ⟨rfl, hb4⟩; have HR := hide ((unhide HR).call hb4); have HF := hide ((unhide HF).call hb4); have HB := hide ((unhide HB).trans (hb4.mono (unhide HB).size)); clear hb4))
    have hl := run_loadF w.heap.size #[.string ⟨#[]⟩, .string ⟨#[]⟩] rfl (unhide ZZ)
    exact bodyPost_ret (Mem.results_cell2 (ad := ⟨w.heap.size, 0, none⟩) Tryz.results13 rfl hl) rfl ⟨rfl, unhide BZ⟩
  · cases ok
    · simp only [Bool.false_eq_true, if_false] at HK
      go_wp2_with (first
        | (refine wpList_storeF rfl _ _ rfl w.heap.size rfl #[.string ⟨#[]⟩, .string ⟨#[]⟩] rfl rfl _ rfl (unhide HR) (by kernel_rfl) ?_; intro HZ; have HBZ := below_setCells w.heap.size (Nat.le_refl _) (#[.string ⟨#[]⟩, .string ⟨#[]⟩]).toList 0 _ (unhide HB); generalize World.setCells _ w.heap.size 0 _ = w9 at HZ HBZ ⊢; have ZZ := hide HZ; have BZ := hide HBZ; clear HZ HBZ)
        | (refine wpList_loadF rfl _ rfl gf rfl _ rfl (unhide HF) ?_)
        | (go_at_call 12; refine (unhide HK _).mono ?_; rintro e w4 ⟨rfl, hb4⟩; have HR := hide ((unhide HR).call hb4); have HF := hide ((unhide HF).call hb4); have HB := hide ((unhide HB).trans (hb4.mono (unhide HB).size)); clear hb4))
      have hl := run_loadF w.heap.size #[.string ⟨#[]⟩, .string ⟨#[]⟩] rfl (unhide ZZ)
      exact bodyPost_ret (Mem.results_cell2 (ad := ⟨w.heap.size, 0, none⟩) Tryz.results13 rfl hl) rfl ⟨rfl, unhide BZ⟩
    · simp only [if_true] at HK
      go_wp2_with (first
        | (refine wpList_storeF rfl _ _ rfl w.heap.size rfl #[.string x, .string y] rfl rfl _ rfl (unhide HR) (by kernel_rfl) ?_; intro HZ; have HBZ := below_setCells w.heap.size (Nat.le_refl _) (#[.string x, .string y]).toList 0 _ (unhide HB); generalize World.setCells _ w.heap.size 0 _ = w9 at HZ HBZ ⊢; have ZZ := hide HZ; have BZ := hide HBZ; clear HZ HBZ)
        | (refine wpList_loadF rfl _ rfl gf rfl _ rfl (unhide HF) ?_)
        | (go_at_call 12; refine (unhide HK _).mono ?_; rintro e w4 ⟨rfl, hb4⟩; have HR := hide ((unhide HR).call hb4); have HF := hide ((unhide HF).call hb4); have HB := hide ((unhide HB).trans (hb4.mono (unhide HB).size)); clear hb4))
      have hl := run_loadF w.heap.size #[.string x, .string y] rfl (unhide ZZ)
      exact bodyPost_ret (Mem.results_cell2 (ad := ⟨w.heap.size, 0, none⟩) Tryz.results13 rfl hl) rfl ⟨rfl, unhide BZ⟩
end Go.Proofs.YtfohhhdebinikaaGreatDoor.Sp
