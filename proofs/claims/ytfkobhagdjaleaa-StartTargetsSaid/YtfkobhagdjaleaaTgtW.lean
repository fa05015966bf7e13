/- The walk of the law StartTargets. -/
import Derived.Test.YtfkobhagdjaleaaA9
import Derived.Test.YtfkobhagdjaleaaPl2
namespace Go.Proofs.Ytfkobhagdjaleaa.Sp
open Go.RowKit

set_option maxRecDepth 100000 in
set_option maxHeartbeats 2000000 in
theorem tg_long (m p h : ByteArray) (hl : 20 < m.size ∨ (m.size ≤ 20 ∧ 100 < p.size) ∨ (m.size ≤ 20 ∧ p.size ≤ 100 ∧ 100 < h.size)) (h1 : m.size ≤ 9223372036854775807) (h2 : p.size ≤ 9223372036854775807) (h3 : h.size ≤ 9223372036854775807) (w : World) (hM : MaxV w) :
    Calls Try.prog 3 #[.string m, .string p, .string h] w fun e w' => e = .returned (.bool true) ∧ Below w.heap.size w w' := by
  have cL := hide (lives_any w hM)
  clear hM
  rcases hl with hl | ⟨hl, hl2⟩ | ⟨hl, hl2, hl3⟩
  · have g1 : decide ((20 : Int) < m.size) = true := decide_eq_true (by omega)
    go_enter Try.func3, Try.ntmps3
    go_wp2_with fail
    refine (unhide cL).mono ?_; rintro e w1 ⟨rfl, hb⟩
    go_wp2_with fail
    go_ret
    exact ⟨rfl, hb⟩
  all_goals have g1 : decide ((20 : Int) < m.size) = false := decide_eq_false (by omega)
  · have g2 : decide ((100 : Int) < p.size) = true := decide_eq_true (by omega)
    go_enter Try.func3, Try.ntmps3
    go_wp2_with fail
    refine (unhide cL).mono ?_; rintro e w1 ⟨rfl, hb⟩
    go_wp2_with fail
    go_ret
    exact ⟨rfl, hb⟩
  · have g2 : decide ((100 : Int) < p.size) = false := decide_eq_false (by omega)
    have g3 : decide ((100 : Int) < h.size) = true := decide_eq_true (by omega)
    go_enter Try.func3, Try.ntmps3
    go_wp2_with fail
    refine (unhide cL).mono ?_; rintro e w1 ⟨rfl, hb⟩
    go_wp2_with fail
    go_ret
    exact ⟨rfl, hb⟩

/-- the ways that end before the second target -/
def tgEnds (r : (Int × List UInt8 × List UInt8) × Int) : Prop := r = tbad ∨ (∃ h, r = ((3, h, []), 0)) ∨ r = ((4, [], []), 0) ∨ (∃ h q, r = ((2, h, q), 0) ∧ q ≠ [])

set_option maxRecDepth 100000 in
set_option maxHeartbeats 2000000 in
theorem tg_ends (m p h : ByteArray) (hm : m.size ≤ 20) (hp : p.size ≤ 100) (hh : h.size ≤ 100) (ht : tgEnds (tgt m.data.toList p.data.toList)) (w : World) (hM : MaxV w) :
    Calls Try.prog 3 #[.string m, .string p, .string h] w fun e w' => e = .returned (.bool true) ∧ Below w.heap.size w w' := by
  have cL := hide (lives_any w hM)
  clear hM
  have hps : p.size < 4294967281 := by omega
  have g1 : decide ((20 : Int) < m.size) = false := decide_eq_false (by omega)
  have g2 : decide ((100 : Int) < p.size) = false := decide_eq_false (by omega)
  have g3 : decide ((100 : Int) < h.size) = false := decide_eq_false (by omega)
  rcases ht with ht | ⟨x, ht⟩ | ht | ⟨x, q, ht, hq⟩
  · have c := hide (fun w => target_at m p ⟨#[]⟩ ⟨#[]⟩ 0 400 ht hps w)
    clear ht hps
    go_enter Try.func3, Try.ntmps3
    go_wp2_with fail
    refine (unhide cL).mono ?_; rintro e w1 ⟨rfl, hb⟩
    go_wp2_with fail
    refine (unhide c _).mono ?_; rintro e w2 ⟨rfl, hb2⟩
    replace hb := hb.trans (hb2.mono hb.size)
    clear hb2 c cL
    go_wp2_with fail
    go_ret
    exact ⟨rfl, hb.alloc hb.size _⟩
  · obtain ⟨x, rfl⟩ := of_list x
    have c := hide (fun w => target_at m p x ⟨#[]⟩ 3 0 ht hps w)
    clear ht hps
    go_enter Try.func3, Try.ntmps3
    go_wp2_with fail
    refine (unhide cL).mono ?_; rintro e w1 ⟨rfl, hb⟩
    go_wp2_with fail
    refine (unhide c _).mono ?_; rintro e w2 ⟨rfl, hb2⟩
    replace hb := hb.trans (hb2.mono hb.size)
    clear hb2 c cL
    go_wp2_with fail
    go_ret
    exact ⟨rfl, hb.alloc hb.size _⟩
  · have c := hide (fun w => target_at m p ⟨#[]⟩ ⟨#[]⟩ 4 0 ht hps w)
    clear ht hps
    go_enter Try.func3, Try.ntmps3
    go_wp2_with fail
    refine (unhide cL).mono ?_; rintro e w1 ⟨rfl, hb⟩
    go_wp2_with fail
    refine (unhide c _).mono ?_; rintro e w2 ⟨rfl, hb2⟩
    replace hb := hb.trans (hb2.mono hb.size)
    clear hb2 c cL
    go_wp2_with fail
    go_ret
    exact ⟨rfl, hb.alloc hb.size _⟩
  · obtain ⟨x, rfl⟩ := of_list x
    obtain ⟨q, rfl⟩ := of_list q
    have c := hide (fun w => target_at m p x q 2 0 ht hps w)
    have he : q.toList.isEmpty = false := by rcases empty_case q with ⟨_, e⟩ | ⟨e, _⟩; exact absurd e hq; exact e
    clear ht hps hq
    go_enter Try.func3, Try.ntmps3
    go_wp2_with fail
    refine (unhide cL).mono ?_; rintro e w1 ⟨rfl, hb⟩
    go_wp2_with fail
    refine (unhide c _).mono ?_; rintro e w2 ⟨rfl, hb2⟩
    replace hb := hb.trans (hb2.mono hb.size)
    clear hb2 c cL
    go_wp2_with fail
    go_ret
    exact ⟨rfl, hb.alloc hb.size _⟩

set_option maxRecDepth 100000 in
set_option maxHeartbeats 4000000 in
theorem tg_main (m p h : ByteArray) (hm : m.size ≤ 20) (hp : p.size ≤ 100) (hh : h.size ≤ 100) (ht : tgt m.data.toList p.data.toList = ((1, [], p.data.toList), 0)) (h1 : seenS p.data.toList = true) (h2 : ¬ 0 ≤ hashN p.data.toList)
    (h3 : ¬ (m.data.toList == connectL) = true) (h4 : ∃ t, p.data.toList = 47 :: t) (w : World) (hM : MaxV w) :
    Calls Try.prog 3 #[.string m, .string p, .string h] w fun e w' => e = .returned (.bool true) ∧ Below w.heap.size w w' := by
  have cL := hide (lives_any w hM)
  clear hM
  have hps : p.size < 4294967281 := by omega
  have g1 : decide ((20 : Int) < m.size) = false := decide_eq_false (by omega)
  have g2 : decide ((100 : Int) < p.size) = false := decide_eq_false (by omega)
  have g3 : decide ((100 : Int) < h.size) = false := decide_eq_false (by omega)
  have c := hide (fun w => target_at m p ⟨#[]⟩ p 1 0 ht hps w)
  have cH := hide (fun w => host_any h (by omega) w)
  have he : p.toList.isEmpty = false := by rcases empty_case p with ⟨_, e⟩ | ⟨e, _⟩; exact absurd e (seen_cons h1); exact e
  cases hP : (portS h.data.toList).2
  · have HP := Lib.hid hP
    clear ht hps h1 h2 h3 h4 
    go_enter Try.func3, Try.ntmps3
    go_wp2_with fail
    refine (unhide cL).mono ?_; rintro e w1 ⟨rfl, hb⟩
    go_wp2_with fail
    refine (unhide c _).mono ?_; rintro e w2 ⟨rfl, hb2⟩
    replace hb := hb.trans (hb2.mono hb.size)
    clear hb2 c cL
    go_wp2_with fail
    refine (unhide cH _).mono ?_; rintro e w' ⟨rfl, rfl⟩
    rw [hP]
    go_wp2_with fail
    go_ret
    exact ⟨rfl, hb.alloc hb.size _⟩
  · have zh : h.data.toList.length = h.size := by simp
    have zp : p.data.toList.length = p.size := by simp
    obtain ⟨lo, hlo⟩ := of_list (lower h.data.toList)
    have e1 : (⟨#[104, 116, 116, 112, 58, 47, 47]⟩ ++ h ++ p : ByteArray).data.toList = httpL ++ h.data.toList ++ p.data.toList := by rw [app_data, app_data]; rfl
    have e2 : (⟨#[104, 84, 84, 112, 58, 47, 47]⟩ ++ lo ++ p : ByteArray).data.toList = hTTpL ++ lo.data.toList ++ p.data.toList := by rw [app_data, app_data]; rfl
    have s1 : (⟨#[104, 116, 116, 112, 58, 47, 47]⟩ ++ h ++ p : ByteArray).size < 4294967281 := by
      rw [size_list e1, List.length_append, List.length_append]
      have : httpL.length = 7 := rfl
      omega
    have s2 : (⟨#[104, 84, 84, 112, 58, 47, 47]⟩ ++ lo ++ p : ByteArray).size < 4294967281 := by
      rw [size_list e2, List.length_append, List.length_append, hlo, lower_len]
      have : hTTpL.length = 7 := rfl
      omega
    have los : lo.size ≤ 100 := by rw [size_list hlo, lower_len, zh]; exact hh
    have c1 := hide (fun w => target_at m (⟨#[104, 116, 116, 112, 58, 47, 47]⟩ ++ h ++ p) lo p 2 0 (by rw [e1, tgt_abs (.inl rfl) h1 h2 h3 h4 hP, hlo]) s1 w)
    have c2 := hide (fun w => target_at m (⟨#[104, 84, 84, 112, 58, 47, 47]⟩ ++ lo ++ p) lo p 2 0 (by rw [e2, tgt_abs (.inr rfl) h1 h2 h3 h4 (by rw [hlo, port_low]; exact hP), hlo, lower_lower]) s2 w)
    have cLo := hide (fun w => rlower_any h (by omega) w)
    rw [← ba_eq hlo] at cLo
    have HP := Lib.hid hP
    clear ht hps h1 h2 h3 h4 zh zp e1 e2 s1 s2 hlo
    go_enter Try.func3, Try.ntmps3
    go_wp2_with fail
    refine (unhide cL).mono ?_; rintro e w1 ⟨rfl, hb⟩
    go_wp2_with fail
    refine (unhide c _).mono ?_; rintro e w2 ⟨rfl, hb2⟩
    replace hb := hb.trans (hb2.mono hb.size)
    clear hb2 c cL
    go_wp2_with fail
    refine (unhide cH _).mono ?_; rintro e w' ⟨rfl, rfl⟩
    rw [hP]
    clear hP cH
    have H1 := Reg.Has.at w2 w2.heap.size [.int .i64 1, .string ⟨#[]⟩, .string p] 24 rfl
    have hb3 := hb.alloc hb.size (.cells #[.int .i64 1, .string ⟨#[]⟩, .string p] 24)
    go_wp2_with fail
    refine (unhide c1 _).mono ?_; rintro e w4 ⟨rfl, hb4⟩
    replace H1 := H1.call hb4
    replace hb := hb3.trans (hb4.mono hb3.size)
    clear hb3 hb4 c1
    have H2 := Reg.Has.at w4 w4.heap.size [.int .i64 2, .string lo, .string p] 24 rfl
    have hb5 := hb.alloc hb.size (.cells #[.int .i64 2, .string lo, .string p] 24)
    replace H1 := H1.alloc (.cells #[.int .i64 2, .string lo, .string p] 24)
    go_wp2_with fail
    refine (unhide cLo _).mono ?_; rintro e w5 ⟨rfl, hb6⟩
    replace H1 := H1.call hb6
    replace H2 := H2.call hb6
    replace hb := hb5.trans (hb6.mono hb5.size)
    clear hb5 hb6
    go_wp2_with fail
    refine (unhide c2 _).mono ?_; rintro e w7 ⟨rfl, hb7⟩
    replace H1 := H1.call hb7
    replace H2 := H2.call hb7
    replace hb := hb.trans (hb7.mono hb.size)
    clear hb7 c2
    have H3 := Reg.Has.at w7 w7.heap.size [.int .i64 2, .string lo, .string p] 24 rfl
    replace hb := hb.alloc hb.size (.cells #[.int .i64 2, .string lo, .string p] 24)
    replace H1 := H1.alloc (.cells #[.int .i64 2, .string lo, .string p] 24)
    replace H2 := H2.alloc (.cells #[.int .i64 2, .string lo, .string p] 24)
    go_wp2_with fail
    generalize hw8 : w7.alloc (.cells #[.int .i64 2, .string lo, .string p] 24) = w8 at *
    clear hw8
    generalize w7.heap.size = b3 at *
    generalize w4.heap.size = b2 at *
    generalize w2.heap.size = b1 at *
    clear g1 g2 g3 he
    have pa := H1.cell 0 _ rfl; have qa := H1.cell 1 _ rfl; have ra := H1.cell 2 _ rfl; have ua := H1.free 0 (by simp); have va := H1.free 1 (by simp); have xa := H1.free 2 (by simp); have za := H1.lt
    have pb := H2.cell 0 _ rfl; have qb := H2.cell 1 _ rfl; have rb := H2.cell 2 _ rfl; have ub := H2.free 0 (by simp); have vb := H2.free 1 (by simp); have xb := H2.free 2 (by simp); have zb := H2.lt
    have pc := H3.cell 0 _ rfl; have qc := H3.cell 1 _ rfl; have rc := H3.cell 2 _ rfl; have uc := H3.free 0 (by simp); have vc := H3.free 1 (by simp); have xc := H3.free 2 (by simp); have zc := H3.lt
    refine Reg.region_more (by kernel_rfl) (by kernel_rfl) ?_
    repeat (go_big_quiet_step ((go_at_call 9; exact Reg.Calls.more (unhide cLo _))))
    refine wpQuiet_nil ?_
    intro w9 hb9; obtain ⟨hc9, hf9, hz9⟩ := bcell hb9; (try simp at hz9)
    go_wp2_with fail
    go_ret
    exact ⟨rfl, hb.trans (hb9.mono hb.size)⟩
end Go.Proofs.Ytfkobhagdjaleaa.Sp
