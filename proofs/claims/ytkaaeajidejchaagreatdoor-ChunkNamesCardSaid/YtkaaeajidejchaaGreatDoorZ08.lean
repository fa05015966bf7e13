/- Lemmas for the statement's proof, several texts in one: P9, P10, P11, P19. -/
import Derived.Test.YtkaaeajidejchaaGreatDoorZ07
import Derived.Laws.EntriesVeiled
import Derived.OwnWalk
import Derived.Laws.CopyOwn
set_option linter.unusedVariables false
set_option linter.unusedSimpArgs false
/- The decoder: Feed. -/
section
namespace Go.Proofs.YtkaaeajidejchaaGreatDoor.Sp
open Go.RowKit Sl

theorem step_bad_st {sz : List UInt8 → Nat × Nat} {fl : List UInt8 → Option Fld} (d : Dec) (c : UInt8) (h : (stepS sz fl d c).2 ≠ 0) : (stepS sz fl d c).1.st = d.st := by
  obtain ⟨L, H, C, B, st, line, body, left, behind, tr, bad, done⟩ := d
  cases st <;> simp only [stepS] at h ⊢ <;> (repeat' split at h) <;> simp_all
  all_goals (split <;> rfl)
theorem step_bad_same {sz : List UInt8 → Nat × Nat} {fl : List UInt8 → Option Fld} (d : Dec) (c : UInt8) : (stepS sz fl d c).1.bad = d.bad := by
  obtain ⟨L, H, C, B, st, line, body, left, behind, tr, bad, done⟩ := d
  cases st <;> simp only [stepS] <;> (repeat' split) <;> rfl
theorem oneS_eq {sz : List UInt8 → Nat × Nat} {fl : List UInt8 → Option Fld} (d : Dec) (c : UInt8) (h : (stepS sz fl d c).2 = 0) (hb : d.bad = 0) : oneS sz fl d c = (stepS sz fl d c).1 := by
  have h1 := step_bad_same (sz := sz) (fl := fl) d c
  unfold oneS
  rw [h]
  generalize (stepS sz fl d c).1 = r at *
  obtain ⟨L, H, C, B, st, line, body, left, behind, tr, bad, done⟩ := r
  simp only at h1
  rw [h1, hb]
set_option maxRecDepth 100000 in
theorem nextV_enter (st : CS) : ∀ args w, (callFunc (nextF st) args).run Tryz.prog w = .ok (.enter (nextF st) args) w := by
  cases st <;> (intro args w; simp only [nextF]; rfl)
theorem step_any (w : World) (base b : Nat) (nx : Value) (d : Dec) (ln bd tr : Value) (c : UInt8) (k : Nat) (h : DecAt w base b nx d ln bd tr) (hok : Okd k d) (hk : k ≤ 900000) (hbase : base ≤ w.heap.size) (hB : d.B ≤ 9223372036854775807) (hM : MaxV w) (hMb : 5 < base) :
    Calls Tryz.prog (nextF d.st) #[.pointer (some ⟨b, 0, none⟩), .int .u8 c.toNat] w fun e w' => stE b (stepS sizeF flF d c) e ∧ Went b base nx w ln bd tr (stepS sizeF flF d c).1 w' := by
  have h1 := hok.l1
  have h2 := hok.l2
  have h3 := hok.l3
  have h4 := hok.l4
  cases hst : d.st
  · exact dsize_any w base b nx d ln bd tr c h hst (by omega) hbase hok.bo hB
  · have h5 := hok.da hst
    exact ddata_any w base b nx d ln bd tr c h hst (by omega) hbase h5.1 h5.2 hB
  · exact dcr_any w base b nx d ln bd tr c h hst
  · exact dlf_any w base b nx d ln bd tr c h hst
  · exact dfield_any w base b nx d ln bd tr c h hst (by omega) hbase (by omega) (by omega) hM hMb

theorem leaves_tmps {P : Program} {fn : Func} {R : Ending → World → Prop} {t t' : Array Value} (hr : results fn t = results fn t') : ∀ (ds : List Deferred) (u : FrameMode) (w : World), Leaves P fn t R ds u w → Leaves P fn t' R ds u w
  | [], .returning, w, h => by simp only [Leaves] at h ⊢; rw [← hr]; exact h
  | [], .panicking c, w, h => h
  | [], .run, w, h => h
  | d :: ds, u, w, h => by
    obtain ⟨h1, fv, cap, f, args, h2, h3, h4⟩ := h
    refine ⟨h1, fv, cap, f, args, h2, h3, h4.mono ?_⟩
    rintro e u' w' he
    cases e with
    | returned v => exact leaves_tmps hr ds _ _ he
    | panicked c => exact leaves_tmps hr ds _ _ he
    | outgrown => exact he
theorem feed_results (a : Act) (d : Option Tmp) (v : Value) (h : (d != some 4 && d != some 5) = true) : results Tryz.f13 (a.put d v).tmps = results Tryz.f13 a.tmps := by
  cases d with
  | none => rfl
  | some d =>
    have h4 : d ≠ 4 ∧ d ≠ 5 := by simpa using h
    unfold results
    rw [Tryz.results13]
    simp [go_sem, Act.put, Array.getElem?_setIfInBounds_ne h4.1, Array.getElem?_setIfInBounds_ne h4.2]
theorem feed_res {tmps : Array Value} {a4 a5 : Addr} {x y : Int} {w : World} (h4 : tmps.getD 4 undef = .pointer (some a4)) (h5 : tmps.getD 5 undef = .pointer (some a5)) (c4 : w.cell? a4 = some (.int .i64 x)) (c5 : w.cell? a5 = some (.int .i64 y)) :
    (results Tryz.f13 tmps).run Tryz.prog w = .ok (.tuple #[.int .i64 x, .int .i64 y]) w := by
  unfold results
  rw [Tryz.results13]
  rw [Array.getD_eq_getD_getElem?] at h4 h5
  simp [go_sem, h4, h5, c4, c5]
theorem feed_put {R : Ending → World → Prop} {l : List Oper} (hl : (l.all fun o => o.dst != some 4 && o.dst != some 5) = true) : ∀ o ∈ l, ∀ c (a : Act) v w, bodyPostD Tryz.prog Tryz.f13 R (.panic c) (Act.put a o.dst v) w → bodyPostD Tryz.prog Tryz.f13 R (.panic c) a w := by
  intro o ho c a v w h
  have h1 := List.all_eq_true.1 hl o ho
  have h2 : (Act.put a o.dst v).defers = a.defers := by cases o.dst <;> rfl
  simp only [bodyPostD] at h ⊢
  rw [h2] at h
  exact leaves_tmps (feed_results a o.dst v h1) _ _ _ h

def cellN (w : World) (a : Addr) : Nat := match w.cell? a with
  | some (.int _ q) => q.toNat
  | _ => 0
theorem cellN_of {w : World} {a : Addr} {n : Nat} {k : IntKind} (h : w.cell? a = some (.int k n)) : cellN w a = n := by unfold cellN; rw [h]; simp
theorem But.new {S : Nat → Prop} {w w1 : World} (h : But S w w1) {p : Addr} (hp : w.heap.size ≤ p.block) (u : Value) : But S w (w1.setCell p u) :=
  h.trans (But.set (fun k => k = p.block) w1 rfl u) (fun i hi e => by have : i = p.block := e; omega)
theorem Moves.fresh {b : Nat} {w w1 : World} {ln bd tr ln' bd' tr' : Value} (h : Moves b w ln bd tr w1 ln' bd' tr') {p : Addr} (hp : w.heap.size ≤ p.block) (u : Value) : Moves b w ln bd tr (w1.setCell p u) ln' bd' tr' := ⟨h.but.new hp u, h.new⟩
theorem Moves.drew {b : Nat} {w w1 : World} {ln bd tr ln' bd' tr' : Value} (h : Moves b w ln bd tr w1 ln' bd' tr') : Moves b w ln bd tr w1.drew ln' bd' tr' := h.call ((Below.refl _ _).drew)
theorem DecAt.drew {w : World} {base b : Nat} {nx : Value} {d : Dec} {ln bd tr : Value} (h : DecAt w base b nx d ln bd tr) : DecAt w.drew base b nx d ln bd tr := h.call ((Below.refl _ _).drew)
/-- a cell of one's own, no row of the decoder, is written -/
theorem DecAt.other {w : World} {base b : Nat} {nx : Value} {d : Dec} {ln bd tr : Value} (h : DecAt w base b nx d ln bd tr) {p : Addr} (hp : ∀ k, foot b ln bd tr k → k ≠ p.block) (u : Value) : DecAt (w.setCell p u) base b nx d ln bd tr :=
  h.but (But.set (fun k => k = p.block) w rfl u) (fun k hk e => hp k hk e)

/-- where Feed stands -/
structure FeedAt (w : World) (base b : Nat) (d : Dec) (ln bd tr : Value) (k : Nat) (l : List UInt8) (i : Nat) (di : Dec) (wr : World) (ln' bd' tr' : Value) : Prop where
  le : i ≤ l.length
  hd : Reg.Has wr w.heap.size [.pointer (some ⟨b, 0, none⟩)]
  hn : Reg.Has wr (w.heap.size + 1) [.int .i64 i]
  hs : Reg.Has wr (w.heap.size + 1 + 1) [.int .i64 0]
  dec : DecAt wr base b (nextV b di.st) di ln' bd' tr'
  mov : Moves b w ln bd tr wr ln' bd' tr'
  ft : ∀ j, foot b ln' bd' tr' j → j ≠ w.heap.size ∧ j ≠ w.heap.size + 1 ∧ j ≠ w.heap.size + 1 + 1
  ok : Okd (k + i) di
  fd : feedS sizeF flF d l = ((feedS sizeF flF di (l.drop i)).1, i + (feedS sizeF flF di (l.drop i)).2)
  lim : di.B = d.B

set_option maxRecDepth 100000 in
set_option maxHeartbeats 4000000 in
theorem feed_any (w : World) (base b : Nat) (d : Dec) (ln bd tr : Value) (s : ByteArray) (k : Nat) (h : DecAt w base b (nextV b d.st) d ln bd tr) (hok : Okd k d) (hk : k + s.size ≤ 800000) (hbase : base ≤ w.heap.size) (hB : d.B ≤ 9223372036854775807) (hM : MaxV w) (hMb : 5 < base) :
    Calls Tryz.prog 13 #[.pointer (some ⟨b, 0, none⟩), .string s] w fun e w' =>
      e = .returned (.tuple #[.int .i64 (feedS sizeF flF d s.data.toList).2, .int .i64 (feedS sizeF flF d s.data.toList).1.bad]) ∧
      Went b base (nextV b (feedS sizeF flF d s.data.toList).1.st) w ln bd tr (feedS sizeF flF d s.data.toList).1 w' := by
  have hmf : ∀ (fn : Fn) (first cap : Array Value) (w : World), (Instr.makeFunc fn first cap).run Tryz.prog w = .ok (.func fn first cap) w := fun _ _ _ _ => rfl
  have zb := h.has.lt
  have H0 := hide h
  have HM0 := hide hM
  have HOK := hide hok
  clear h hM hok
  go_enter_defers Tryz.func13, Tryz.ntmps13
  go_wp2_with fail
  have hlen : s.data.toList.length = s.size := by simp
  have hF0 : FeedAt w base b d ln bd tr k s.data.toList 0 d (((w.alloc (.cells #[.pointer (some ⟨b, 0, none⟩)] 27)).alloc (.cells #[.int .i64 0] 3)).alloc (.cells #[.int .i64 0] 3)) ln bd tr :=
    have hbl : Below w.heap.size w (((w.alloc (.cells #[.pointer (some ⟨b, 0, none⟩)] 27)).alloc (.cells #[.int .i64 0] 3)).alloc (.cells #[.int .i64 0] 3)) := (((Below.refl w.heap.size w).alloc (Nat.le_refl _) _).alloc (by simp) _).alloc (by simp; omega) _
    { le := Nat.zero_le _
      hd := ((Reg.Has.new w [.pointer (some ⟨b, 0, none⟩)] 27).alloc _).alloc _
      hn := (Reg.Has.at _ _ [.int .i64 0] 3 (by simp)).alloc _
      hs := Reg.Has.at _ _ [.int .i64 0] 3 (by simp)
      dec := (unhide H0).call hbl
      mov := (Moves.refl _ _ _ _ _).call hbl
      ft := fun j hj => by have := (unhide H0).foot_lt j hj; omega
      ok := unhide HOK
      fd := by simp
      lim := rfl }
  go_loopw [] (fun wr => ∃ (i : Nat) (di : Dec) (ln' bd' tr' : Value), FeedAt w base b d ln bd tr k s.data.toList i di wr ln' bd' tr') (fun wr => s.size - cellN wr ⟨w.heap.size + 1, 0, none⟩)
  case atStart => exact ⟨0, d, ln, bd, tr, hF0⟩
  case round =>
    clear hF0
    obtain ⟨i, di, ln', bd', tr', hF⟩ := hrel
    have d0 := hF.hd.cell 0 _ rfl
    have n0 := hF.hn.cell 0 _ rfl
    have p10 := hF.dec.has.cell 10 _ rfl
    have p11 := hF.dec.has.cell 11 _ rfl
    rcases Nat.lt_or_ge i s.size with hlt | hge
    · by_cases hb0 : di.bad = 0
      · cases hdn : di.done
        · have hdrop := drop_cons s i hlt
          have hstop : stopS di = false := by unfold stopS; rw [hb0, hdn]; rfl
          have hfd := hF.fd
          rw [hdrop, feedS, if_neg (by rw [hstop]; simp)] at hfd
          rw [hdn] at p11
          have b1 : ((di.bad : Int) == 0) = true := by rw [hb0]; rfl
          have b2 : (di.bad : Int) = 0 := by omega
          have hM1 := (unhide HM0).moves (unhide H0) hF.mov.drew hMb
          have hbs1 : base ≤ wr.drew.heap.size := by have := hF.mov.but.size; show base ≤ wr.heap.size; omega
          have hST := step_any wr.drew base b (nextV b di.st) di ln' bd' tr' s[i] (k + i) hF.dec.drew hF.ok (by omega) hbs1 (by rw [hF.lim]; exact hB) hM1 hMb
          have HFD := Lib.hid hfd
          have HF := hide hF
          have p4 := hF.dec.has.cell 4 _ rfl
          have u4 := hF.dec.has.free 4 (by simp [decV])
          have EN := nextV_enter di.st
          have HB0 := Lib.hid hb0
          have x0 : ∀ y : Reg.Kp (fun w' => Reg.Has w' w.heap.size [.pointer (some ⟨b, 0, none⟩)] ∧ Reg.Has w' (w.heap.size + 1) [.int .i64 i]), y.w.cell? ⟨w.heap.size, 0, none⟩ = some (.pointer (some ⟨b, 0, none⟩)) := fun y => y.h.1.cell 0 _ rfl
          have x1 : ∀ y : Reg.Kp (fun w' => Reg.Has w' w.heap.size [.pointer (some ⟨b, 0, none⟩)] ∧ Reg.Has w' (w.heap.size + 1) [.int .i64 i]), y.w.cell? ⟨w.heap.size + 1, 0, none⟩ = some (.int .i64 i) := fun y => y.h.2.cell 0 _ rfl
          clear hF hfd hstop hdrop hM1 hbs1 hb0
          unfold stE at hST
          unfold nextV at p4
          (try simp only at p4)
          obtain ⟨g, hg⟩ : ∃ g, nextF di.st = g := ⟨_, rfl⟩
          rw [hg] at p4 EN hST
          obtain ⟨⟨d2, f⟩, hr⟩ : ∃ r, stepS sizeF flF di s[i] = r := ⟨_, rfl⟩
          rw [hr] at hST
          (try simp only at hST)
          by_cases hf : f = 0
          · subst hf
            rw [if_neg (by simp), show nextV b d2.st = .func (.func (nextF d2.st)) #[.pointer (some ⟨b, 0, none⟩)] #[] from rfl] at hST
            obtain ⟨g2, hg2⟩ : ∃ g2, nextF d2.st = g2 := ⟨_, rfl⟩
            rw [hg2] at hST
            have HG2 := Lib.hid hg2
            have HST := hide hST
            clear hg2
            have HR := Lib.hid hr
            have HG := Lib.hid hg
            clear hST hr hg
            go_upto_region 5 with fail
            have hkpne : Nonempty (Reg.Kp (fun w' => Reg.Has w' w.heap.size [.pointer (some ⟨b, 0, none⟩)] ∧ Reg.Has w' (w.heap.size + 1) [.int .i64 i])) := ⟨⟨_, ⟨(unhide HF).hd.drew, (unhide HF).hn.drew⟩⟩⟩
            refine Reg.region_plan3 (fun w' => Reg.Has w' w.heap.size [.pointer (some ⟨b, 0, none⟩)] ∧ Reg.Has w' (w.heap.size + 1) [.int .i64 i]) (.takes [0, 1, 2, 3, 5, 6, 7] (.ones [4, 8, 9, 10, 11] .done)) (by kernel_rfl) (by kernel_rfl) (by kernel_rfl) (by decide) (feed_put (by kernel_rfl)) (⟨(unhide HF).hd.drew, (unhide HF).hn.drew⟩) ?_
            simp only [Reg.Plan3.takes, Reg.Plan3.ones, Reg.wpPlan3, List.getElem?_cons_zero, List.getElem?_cons_succ]
            refine Reg.take_read (by kernel_rfl) ?_
            go_big_quiet_step (fail)
            refine wpQuiet_nil ?_
            refine Reg.take_read (by kernel_rfl) ?_
            go_big_quiet_step (fail)
            refine wpQuiet_nil ?_
            refine Reg.take_nilq _ rfl ?_
            go_big_quiet_step (fail)
            refine wpQuiet_nil ?_
            refine Reg.take_read (by kernel_rfl) ?_
            go_big_quiet_step (fail)
            refine wpQuiet_nil ?_
            refine Reg.take_read (by kernel_rfl) ?_
            go_big_quiet_step (fail)
            refine wpQuiet_nil ?_
            refine Reg.take_read (by kernel_rfl) ?_
            go_big_quiet_step (fail)
            refine wpQuiet_nil ?_
            refine Reg.take_read (by kernel_rfl) ?_
            go_big_quiet_step (fail)
            refine wpQuiet_nil ?_
            (try simp only [Reg.wpOne])
            go_wp2_with (fail)
            refine Reg.thenQ_mk ⟨⟨_, ⟨(unhide HF).hd.drew, (unhide HF).hn.drew⟩⟩, rfl⟩ ?_
            (try dsimp only)
            (try simp only [Reg.wpOne])
            go_wp2_with (go_at_fn g; refine (unhide HST).mono ?_; rintro e w3 ⟨rfl, ln2, bd2, tr2, h1, h2⟩)
            have HD3 := hide (h2.but.has (unhide HF).hd.drew (fun e => ((unhide HF).ft _ e).1 rfl))
            have HN3 := hide (h2.but.has (unhide HF).hn.drew (fun e => ((unhide HF).ft _ e).2.1 rfl))
            have HS3 := hide (h2.but.has (unhide HF).hs.drew (fun e => ((unhide HF).ft _ e).2.2 rfl))
            have H1 := hide h1
            have H2 := hide h2
            have q4 := h1.has.cell 4 _ rfl
            have v4 := h1.has.free 4 (by simp [decV])
            have nbd : b ≠ w.heap.size := by omega
            have nbn : b ≠ w.heap.size + 1 := by omega
            have nbs : b ≠ w.heap.size + 1 + 1 := by omega
            clear h1 h2 p4 u4 EN hkpne x0 x1 d0 n0 p10 p11
            refine Reg.thenQ_mk ⟨⟨_, ⟨unhide HD3, unhide HN3⟩⟩, rfl⟩ ?_
            (try dsimp only)
            (try simp only [Reg.wpOne])
            go_wp2_with (fail)
            refine Reg.thenQ_mk ⟨⟨_, ⟨unhide HD3, unhide HN3⟩⟩, rfl⟩ ?_
            (try dsimp only)
            (try simp only [Reg.wpOne])
            go_wp2_with (fail)
            refine Reg.thenQ_mk ⟨⟨_, ⟨unhide HD3, unhide HN3⟩⟩, rfl⟩ ?_
            (try dsimp only)
            (try simp only [Reg.wpOne])
            go_wp2_with (fail)
            refine Reg.thenQ_mk ⟨⟨_, ⟨(unhide HD3).other (a := ⟨b, 4, none⟩) (by show b ≠ _; omega) _, (unhide HN3).other (a := ⟨b, 4, none⟩) (by show b ≠ _; omega) _⟩⟩, rfl⟩ ?_
            (try dsimp only)
            have HD4 := hide ((unhide HD3).other (a := ⟨b, 4, none⟩) (by show b ≠ _; omega) (.func (.func g2) #[.pointer (some ⟨b, 0, none⟩)] #[]))
            have HN4 := hide ((unhide HN3).other (a := ⟨b, 4, none⟩) (by show b ≠ _; omega) (.func (.func g2) #[.pointer (some ⟨b, 0, none⟩)] #[]))
            have HS4 := hide ((unhide HS3).other (a := ⟨b, 4, none⟩) (by show b ≠ _; omega) (.func (.func g2) #[.pointer (some ⟨b, 0, none⟩)] #[]))
            have HC4 := hide ((unhide H1).put (nx' := nextV b d2.st) (d' := d2) 4 (.func (.func g2) #[.pointer (some ⟨b, 0, none⟩)] #[]) (by rw [show nextV b d2.st = .func (.func (nextF d2.st)) #[.pointer (some ⟨b, 0, none⟩)] #[] from rfl, HG2.out]; rfl) rfl rfl rfl)
            have HM4 := hide ((unhide H2).put 4 (.func (.func g2) #[.pointer (some ⟨b, 0, none⟩)] #[]))
            clear HD3 HN3 HS3 H1 H2 q4 v4
            generalize w3.setCell ⟨b, 4, none⟩ (.func (.func g2) #[.pointer (some ⟨b, 0, none⟩)] #[]) = w4 at *
            have n4 := (unhide HN4).cell 0 _ rfl
            have e4 := (unhide HN4).free 0 (by simp)
            have hin : i + 1 ≤ 800000 := by omega
            go_wp2_with fail
            go_roundw
            case rel =>
              have hst0 : oneS sizeF flF di s[i] = d2 := by rw [oneS_eq di s[i] (by rw [HR.out]) HB0.out, HR.out]
              have hfd := HFD.out
              rw [hst0] at hfd
              have hfoot : ∀ j, foot b ln2 bd2 tr2 j → j ≠ w.heap.size ∧ j ≠ w.heap.size + 1 ∧ j ≠ w.heap.size + 1 + 1 := fun j hj => by
                rcases (unhide HM4).new j hj with h | h
                · exact (unhide HF).ft j h
                · have l1 := (unhide HF).hd.lt
                  have l2 := (unhide HF).hn.lt
                  have l3 := (unhide HF).hs.lt
                  have h' : wr.heap.size ≤ j := h
                  omega
              have hok2 : Okd (k + (i + 1)) d2 := by
                have := oneS_ok (fl := flF) sizeF_stat (unhide HF).ok s[i]
                rw [hst0] at this
                exact this
              have hlim : d2.B = d.B := by rw [← (unhide HF).lim, ← hst0]; exact (oneS_lim di s[i]).1
              refine ⟨i + 1, d2, ln2, bd2, tr2, ?_⟩
              exact
                { le := by rw [hlen]; omega
                  hd := (unhide HD4).other (a := ⟨w.heap.size + 1, 0, none⟩) (by show w.heap.size + 1 ≠ w.heap.size; omega) _
                  hn := (unhide HN4).put 0 (.int .i64 ((i : Int) + 1))
                  hs := (unhide HS4).other (a := ⟨w.heap.size + 1, 0, none⟩) (by show w.heap.size + 1 ≠ w.heap.size + 1 + 1; omega) _
                  dec := (unhide HC4).other (p := ⟨w.heap.size + 1, 0, none⟩) (fun j hj => (hfoot j hj).2.1) _
                  mov := ((unhide HF).mov.drew.trans (unhide HM4)).fresh (p := ⟨w.heap.size + 1, 0, none⟩) (by show w.heap.size ≤ w.heap.size + 1; omega) _
                  ft := hfoot
                  ok := hok2
                  fd := by rw [hfd]; congr 1; omega
                  lim := hlim }
            case measure =>
              have c1 : cellN wr ⟨w.heap.size + 1, 0, none⟩ = i := cellN_of (k := .i64) ((unhide HF).hn.cell 0 _ rfl)
              have c2 : cellN (w4.setCell ⟨w.heap.size + 1, 0, none⟩ (.int .i64 ((i : Int) + 1))) ⟨w.heap.size + 1, 0, none⟩ = i + 1 := cellN_of (k := .i64) (((unhide HN4).put 0 (.int .i64 ((i : Int) + 1))).cell 0 _ rfl)
              rw [c1, c2]
              omega
          · rw [if_pos hf] at hST
            unfold flawE at hST
            have HST := hide hST
            have HR := Lib.hid hr
            have HG := Lib.hid hg
            have HFF := Lib.hid hf
            have hf431 : f ≤ 431 := by
              have := (oneS_ok (fl := flF) sizeF_stat (unhide HF).ok s[i]).ba
              unfold oneS at this
              rw [hr] at this
              simp only [statB, Bool.or_eq_true, beq_iff_eq] at this
              omega
            clear hST hr hg hf
            go_upto_region 5 with fail
            have hkpne : Nonempty (Reg.Kp (fun w' => Reg.Has w' w.heap.size [.pointer (some ⟨b, 0, none⟩)] ∧ Reg.Has w' (w.heap.size + 1) [.int .i64 i])) := ⟨⟨_, ⟨(unhide HF).hd.drew, (unhide HF).hn.drew⟩⟩⟩
            refine Reg.region_plan3 (fun w' => Reg.Has w' w.heap.size [.pointer (some ⟨b, 0, none⟩)] ∧ Reg.Has w' (w.heap.size + 1) [.int .i64 i]) (.takes [0, 1, 2, 3, 5, 6, 7] (.ones [4, 8, 9, 10, 11] .done)) (by kernel_rfl) (by kernel_rfl) (by kernel_rfl) (by decide) (feed_put (by kernel_rfl)) (⟨(unhide HF).hd.drew, (unhide HF).hn.drew⟩) ?_
            simp only [Reg.Plan3.takes, Reg.Plan3.ones, Reg.wpPlan3, List.getElem?_cons_zero, List.getElem?_cons_succ]
            refine Reg.take_read (by kernel_rfl) ?_
            go_big_quiet_step (fail)
            refine wpQuiet_nil ?_
            refine Reg.take_read (by kernel_rfl) ?_
            go_big_quiet_step (fail)
            refine wpQuiet_nil ?_
            refine Reg.take_nilq _ rfl ?_
            go_big_quiet_step (fail)
            refine wpQuiet_nil ?_
            refine Reg.take_read (by kernel_rfl) ?_
            go_big_quiet_step (fail)
            refine wpQuiet_nil ?_
            refine Reg.take_read (by kernel_rfl) ?_
            go_big_quiet_step (fail)
            refine wpQuiet_nil ?_
            refine Reg.take_read (by kernel_rfl) ?_
            go_big_quiet_step (fail)
            refine wpQuiet_nil ?_
            refine Reg.take_read (by kernel_rfl) ?_
            go_big_quiet_step (fail)
            refine wpQuiet_nil ?_
            (try simp only [Reg.wpOne])
            go_wp2_with (fail)
            refine Reg.thenQ_mk ⟨⟨_, ⟨(unhide HF).hd.drew, (unhide HF).hn.drew⟩⟩, rfl⟩ ?_
            (try dsimp only)
            (try simp only [Reg.wpOne])
            go_wp2_with (go_at_fn g; refine (unhide HST).mono ?_; rintro e w3 ⟨rfl, ln2, bd2, tr2, h1, h2⟩)
            have HD3 := hide (h2.but.has (unhide HF).hd.drew (fun e => ((unhide HF).ft _ e).1 rfl))
            have HN3 := hide (h2.but.has (unhide HF).hn.drew (fun e => ((unhide HF).ft _ e).2.1 rfl))
            have HS3 := hide (h2.but.has (unhide HF).hs.drew (fun e => ((unhide HF).ft _ e).2.2 rfl))
            have H1 := hide h1
            have H2 := hide h2
            clear h1 h2 p4 u4 EN hkpne x0 x1 d0 n0 p10 p11
            have hb10 : (decV (nextV b di.st) d2 ln2 bd2 tr2)[10]? = some (.int .i64 d2.bad) := rfl
            refine leaves_cons (f := 28) (args := #[.pointer (some ⟨w.heap.size, 0, none⟩), .pointer (some ⟨w.heap.size + 1, 0, none⟩), .pointer (some ⟨w.heap.size + 1 + 1, 0, none⟩)]) (by simp) (by simp [go_sem]) ?_
            refine (catch_flaw w.heap.size (w.heap.size + 1) (w.heap.size + 1 + 1) b f i _ _ _ (by omega) (by omega) (by omega) (by omega) w3 (unhide HD3) (unhide HN3) (unhide HS3) (unhide H1).has hb10 (by omega) (by omega) (by omega) (by omega) (by omega) (by omega)).mono ?_
            rintro e u' w'' ⟨rfl, rfl, rfl⟩
            have hHN := (unhide HN3).other (a := ⟨b, 10, none⟩) (by show b ≠ _; omega) (.int .i64 f)
            have hHS := (unhide HS3).other (a := ⟨b, 10, none⟩) (by show b ≠ _; omega) (.int .i64 f)
            have n9 := ((hHN.put 0 (.int .i64 ((i : Int) + 1))).other (a := ⟨w.heap.size + 1 + 1, 0, none⟩) (by show w.heap.size + 1 + 1 ≠ w.heap.size + 1; omega) (.int .i64 f)).drew.cell 0 _ rfl
            have s9 := ((hHS.other (a := ⟨w.heap.size + 1, 0, none⟩) (by show w.heap.size + 1 ≠ w.heap.size + 1 + 1; omega) (.int .i64 ((i : Int) + 1))).put 0 (.int .i64 f)).drew.cell 0 _ rfl
            have hfoot : ∀ j, foot b ln2 bd2 tr2 j → j ≠ w.heap.size ∧ j ≠ w.heap.size + 1 ∧ j ≠ w.heap.size + 1 + 1 := fun j hj => by
              rcases (unhide H2).new j hj with h | h
              · exact (unhide HF).ft j h
              · have l1 := (unhide HF).hd.lt
                have l2 := (unhide HF).hn.lt
                have l3 := (unhide HF).hs.lt
                have h' : wr.heap.size ≤ j := h
                omega
            have hst2 : d2.st = di.st := by
              have := step_bad_st (sz := sizeF) (fl := flF) di s[i] (by rw [HR.out]; exact HFF.out)
              rw [HR.out] at this
              exact this
            have hone : oneS sizeF flF di s[i] = { d2 with bad := f } := by unfold oneS; rw [HR.out]
            have hfin : feedS sizeF flF d s.data.toList = ({ d2 with bad := f }, i + 1) := by
              rw [HFD.out, hone, feedS_stop (sz := sizeF) (fl := flF) (by unfold stopS; simp [HFF.out])]
            have hD9 := ((((unhide H1).put (d' := { d2 with bad := f }) 10 (.int .i64 f) rfl rfl rfl rfl).other (p := ⟨w.heap.size + 1, 0, none⟩) (fun j hj => (hfoot j hj).2.1) (.int .i64 ((i : Int) + 1))).other (p := ⟨w.heap.size + 1 + 1, 0, none⟩) (fun j hj => (hfoot j hj).2.2) (.int .i64 f)).drew
            have hM9 := (((((unhide HF).mov.drew.trans (unhide H2)).put 10 (.int .i64 f)).fresh (p := ⟨w.heap.size + 1, 0, none⟩) (by show w.heap.size ≤ w.heap.size + 1; omega) (.int .i64 ((i : Int) + 1))).fresh (p := ⟨w.heap.size + 1 + 1, 0, none⟩) (by show w.heap.size ≤ w.heap.size + 1 + 1; omega) (.int .i64 f)).drew
            refine ⟨.tuple #[.int .i64 ((i : Int) + 1), .int .i64 f], feed_res rfl rfl n9 s9, ?_⟩
            rw [hfin]
            refine ⟨rfl, _, _, _, ?_, hM9⟩
            have hnx : nextV b d2.st = nextV b di.st := by rw [hst2]
            show DecAt _ base b (nextV b d2.st) _ _ _ _
            rw [hnx]
            exact hD9
        · have hfin : feedS sizeF flF d s.data.toList = (di, i) := by
            rw [hF.fd, feedS_stop (sz := sizeF) (fl := flF) (by unfold stopS; rw [hdn]; simp)]; rfl
          rw [hdn] at p11
          have b1 : ((di.bad : Int) == 0) = true := by rw [hb0]; rfl
          have b2 : (di.bad : Int) = 0 := by omega
          go_upto_region 7 with fail
          (try clear b1 b2); (try clear hb0)
          have HFIN := Lib.hid hfin
          have BD := hide (hF.dec.has.cell 10 _ rfl)
          have x0 : ∀ y : Reg.Kp (fun w' => Reg.Has w' w.heap.size [.pointer (some ⟨b, 0, none⟩)] ∧ Reg.Has w' (w.heap.size + 1) [.int .i64 i] ∧ w'.cell? ⟨b, 10, none⟩ = some (.int .i64 di.bad)), y.w.cell? ⟨w.heap.size, 0, none⟩ = some (.pointer (some ⟨b, 0, none⟩)) := fun y => y.h.1.cell 0 _ rfl
          have x1 : ∀ y : Reg.Kp (fun w' => Reg.Has w' w.heap.size [.pointer (some ⟨b, 0, none⟩)] ∧ Reg.Has w' (w.heap.size + 1) [.int .i64 i] ∧ w'.cell? ⟨b, 10, none⟩ = some (.int .i64 di.bad)), y.w.cell? ⟨w.heap.size + 1, 0, none⟩ = some (.int .i64 i) := fun y => y.h.2.1.cell 0 _ rfl
          have x2 : ∀ y : Reg.Kp (fun w' => Reg.Has w' w.heap.size [.pointer (some ⟨b, 0, none⟩)] ∧ Reg.Has w' (w.heap.size + 1) [.int .i64 i] ∧ w'.cell? ⟨b, 10, none⟩ = some (.int .i64 di.bad)), y.w.cell? ⟨b, 10, none⟩ = some (.int .i64 di.bad) := fun y => y.h.2.2
          have e1 := hF.hn.free 0 (by simp)
          have s0 := hF.hs.cell 0 _ rfl
          have g1 := hF.hs.free 0 (by simp)
          have e2 := hF.hn.drew.free 0 (by simp)
          have s2 := hF.hs.drew.cell 0 _ rfl
          have g2 := hF.hs.drew.free 0 (by simp)
          have n2 := hF.hn.drew.cell 0 _ rfl
          have HF := hide hF
          clear hF hfin
          have hkpne : Nonempty (Reg.Kp (fun w' => Reg.Has w' w.heap.size [.pointer (some ⟨b, 0, none⟩)] ∧ Reg.Has w' (w.heap.size + 1) [.int .i64 i] ∧ w'.cell? ⟨b, 10, none⟩ = some (.int .i64 di.bad))) := ⟨⟨_, ⟨(unhide HF).hd.drew, (unhide HF).hn.drew, unhide BD⟩⟩⟩
          refine Reg.region_plan3 (fun w' => Reg.Has w' w.heap.size [.pointer (some ⟨b, 0, none⟩)] ∧ Reg.Has w' (w.heap.size + 1) [.int .i64 i] ∧ w'.cell? ⟨b, 10, none⟩ = some (.int .i64 di.bad)) (.takes [0, 1, 2, 3, 4] (.ones [5, 6] .done)) (by kernel_rfl) (by kernel_rfl) (by kernel_rfl) (by decide) (feed_put (by kernel_rfl)) (⟨(unhide HF).hd.drew, (unhide HF).hn.drew, unhide BD⟩) ?_
          simp only [Reg.Plan3.takes, Reg.Plan3.ones, Reg.wpPlan3, List.getElem?_cons_zero, List.getElem?_cons_succ]
          refine Reg.take_read (by kernel_rfl) ?_
          go_big_quiet_step (fail)
          refine wpQuiet_nil ?_
          refine Reg.take_read (by kernel_rfl) ?_
          go_big_quiet_step (fail)
          refine wpQuiet_nil ?_
          refine Reg.take_nilq _ rfl ?_
          go_big_quiet_step (fail)
          refine wpQuiet_nil ?_
          refine Reg.take_read (by kernel_rfl) ?_
          go_big_quiet_step (fail)
          refine wpQuiet_nil ?_
          refine Reg.take_read (by kernel_rfl) ?_
          go_big_quiet_step (fail)
          refine wpQuiet_nil ?_
          have nb : w.heap.size + 1 ≠ b := by omega
          have nb' : b ≠ w.heap.size + 1 := by omega
          (try simp only [Reg.wpOne])
          go_wp2_with (fail)
          refine Reg.thenQ_mk ⟨⟨_, ⟨(unhide HF).hd.drew.other (a := ⟨w.heap.size + 1, 0, none⟩) (by show w.heap.size + 1 ≠ w.heap.size; omega) _, (unhide HF).hn.drew.put 0 _, (World.cell?_setCell_other _ _ _ _ (by intro e; injection e; omega)).trans (unhide BD)⟩⟩, rfl⟩ ?_
          (try dsimp only)
          (try simp only [Reg.wpOne])
          go_wp2_with (fail)
          refine Reg.thenQ_mk ⟨⟨_, ⟨((unhide HF).hd.drew.other (a := ⟨w.heap.size + 1, 0, none⟩) (by show w.heap.size + 1 ≠ w.heap.size; omega) _).other (a := ⟨w.heap.size + 1 + 1, 0, none⟩) (by show w.heap.size + 1 + 1 ≠ w.heap.size; omega) _, ((unhide HF).hn.drew.put 0 _).other (a := ⟨w.heap.size + 1 + 1, 0, none⟩) (by show w.heap.size + 1 + 1 ≠ w.heap.size + 1; omega) _, (World.cell?_setCell_other _ _ _ _ (by intro e; injection e; omega)).trans ((World.cell?_setCell_other _ _ _ _ (by intro e; injection e; omega)).trans (unhide BD))⟩⟩, rfl⟩ ?_
          (try dsimp only)
          have hD9 := hide (((unhide HF).dec.other (p := ⟨w.heap.size + 1, 0, none⟩) (fun j hj => ((unhide HF).ft j hj).2.1) (.int .i64 i)).other (p := ⟨w.heap.size + 1 + 1, 0, none⟩) (fun j hj => ((unhide HF).ft j hj).2.2) (.int .i64 di.bad)).drew
          have hM9 := hide (((unhide HF).mov.fresh (p := ⟨w.heap.size + 1, 0, none⟩) (by show w.heap.size ≤ w.heap.size + 1; omega) (.int .i64 i)).fresh (p := ⟨w.heap.size + 1 + 1, 0, none⟩) (by show w.heap.size ≤ w.heap.size + 1 + 1; omega) (.int .i64 di.bad)).drew
          have n9 := (((unhide HF).hn.put 0 (.int .i64 i)).other (a := ⟨w.heap.size + 1 + 1, 0, none⟩) (by show w.heap.size + 1 + 1 ≠ w.heap.size + 1; omega) (.int .i64 di.bad)).drew.cell 0 _ rfl
          have s9 := (((unhide HF).hs.other (a := ⟨w.heap.size + 1, 0, none⟩) (by show w.heap.size + 1 ≠ w.heap.size + 1 + 1; omega) (.int .i64 i)).put 0 (.int .i64 di.bad)).drew.cell 0 _ rfl
          clear e1 s0 g1 e2 s2 g2 n2 n0 d0 p10 p11
          generalize ((wr.setCell ⟨w.heap.size + 1, 0, none⟩ (.int .i64 i)).setCell ⟨w.heap.size + 1 + 1, 0, none⟩ (.int .i64 di.bad)).drew = w9 at *
          go_wp2_with fail
          refine leaves_cons (f := 28) (args := #[.pointer (some ⟨w.heap.size, 0, none⟩), .pointer (some ⟨w.heap.size + 1, 0, none⟩), .pointer (some ⟨w.heap.size + 1 + 1, 0, none⟩)]) (by simp) (by simp [go_sem]) ?_
          refine (catch_idle w.heap.size (w.heap.size + 1) (w.heap.size + 1 + 1) _).mono ?_
          rintro e u' w'' ⟨rfl, rfl, rfl⟩
          refine ⟨.tuple #[.int .i64 i, .int .i64 di.bad], feed_res rfl rfl n9 s9, ?_⟩
          rw [HFIN.out]
          exact ⟨rfl, _, _, _, unhide hD9, unhide hM9⟩
      · have hfin : feedS sizeF flF d s.data.toList = (di, i) := by
          rw [hF.fd, feedS_stop (sz := sizeF) (fl := flF) (by unfold stopS; simp [hb0])]; rfl
        have b1 : ((di.bad : Int) == 0) = false := by rw [beq_eq_false_iff_ne]; omega
        have b2 : ¬ (di.bad : Int) = 0 := by omega
        go_upto_region 7 with fail
        (try clear b1 b2); (try clear hb0)
        have HFIN := Lib.hid hfin
        have BD := hide (hF.dec.has.cell 10 _ rfl)
        have x0 : ∀ y : Reg.Kp (fun w' => Reg.Has w' w.heap.size [.pointer (some ⟨b, 0, none⟩)] ∧ Reg.Has w' (w.heap.size + 1) [.int .i64 i] ∧ w'.cell? ⟨b, 10, none⟩ = some (.int .i64 di.bad)), y.w.cell? ⟨w.heap.size, 0, none⟩ = some (.pointer (some ⟨b, 0, none⟩)) := fun y => y.h.1.cell 0 _ rfl
        have x1 : ∀ y : Reg.Kp (fun w' => Reg.Has w' w.heap.size [.pointer (some ⟨b, 0, none⟩)] ∧ Reg.Has w' (w.heap.size + 1) [.int .i64 i] ∧ w'.cell? ⟨b, 10, none⟩ = some (.int .i64 di.bad)), y.w.cell? ⟨w.heap.size + 1, 0, none⟩ = some (.int .i64 i) := fun y => y.h.2.1.cell 0 _ rfl
        have x2 : ∀ y : Reg.Kp (fun w' => Reg.Has w' w.heap.size [.pointer (some ⟨b, 0, none⟩)] ∧ Reg.Has w' (w.heap.size + 1) [.int .i64 i] ∧ w'.cell? ⟨b, 10, none⟩ = some (.int .i64 di.bad)), y.w.cell? ⟨b, 10, none⟩ = some (.int .i64 di.bad) := fun y => y.h.2.2
        have e1 := hF.hn.free 0 (by simp)
        have s0 := hF.hs.cell 0 _ rfl
        have g1 := hF.hs.free 0 (by simp)
        have e2 := hF.hn.drew.free 0 (by simp)
        have s2 := hF.hs.drew.cell 0 _ rfl
        have g2 := hF.hs.drew.free 0 (by simp)
        have n2 := hF.hn.drew.cell 0 _ rfl
        have HF := hide hF
        clear hF hfin
        have hkpne : Nonempty (Reg.Kp (fun w' => Reg.Has w' w.heap.size [.pointer (some ⟨b, 0, none⟩)] ∧ Reg.Has w' (w.heap.size + 1) [.int .i64 i] ∧ w'.cell? ⟨b, 10, none⟩ = some (.int .i64 di.bad))) := ⟨⟨_, ⟨(unhide HF).hd.drew, (unhide HF).hn.drew, unhide BD⟩⟩⟩
        refine Reg.region_plan3 (fun w' => Reg.Has w' w.heap.size [.pointer (some ⟨b, 0, none⟩)] ∧ Reg.Has w' (w.heap.size + 1) [.int .i64 i] ∧ w'.cell? ⟨b, 10, none⟩ = some (.int .i64 di.bad)) (.takes [0, 1, 2, 3, 4] (.ones [5, 6] .done)) (by kernel_rfl) (by kernel_rfl) (by kernel_rfl) (by decide) (feed_put (by kernel_rfl)) (⟨(unhide HF).hd.drew, (unhide HF).hn.drew, unhide BD⟩) ?_
        simp only [Reg.Plan3.takes, Reg.Plan3.ones, Reg.wpPlan3, List.getElem?_cons_zero, List.getElem?_cons_succ]
        refine Reg.take_read (by kernel_rfl) ?_
        go_big_quiet_step (fail)
        refine wpQuiet_nil ?_
        refine Reg.take_read (by kernel_rfl) ?_
        go_big_quiet_step (fail)
        refine wpQuiet_nil ?_
        refine Reg.take_nilq _ rfl ?_
        go_big_quiet_step (fail)
        refine wpQuiet_nil ?_
        refine Reg.take_read (by kernel_rfl) ?_
        go_big_quiet_step (fail)
        refine wpQuiet_nil ?_
        refine Reg.take_read (by kernel_rfl) ?_
        go_big_quiet_step (fail)
        refine wpQuiet_nil ?_
        have nb : w.heap.size + 1 ≠ b := by omega
        have nb' : b ≠ w.heap.size + 1 := by omega
        (try simp only [Reg.wpOne])
        go_wp2_with (fail)
        refine Reg.thenQ_mk ⟨⟨_, ⟨(unhide HF).hd.drew.other (a := ⟨w.heap.size + 1, 0, none⟩) (by show w.heap.size + 1 ≠ w.heap.size; omega) _, (unhide HF).hn.drew.put 0 _, (World.cell?_setCell_other _ _ _ _ (by intro e; injection e; omega)).trans (unhide BD)⟩⟩, rfl⟩ ?_
        (try dsimp only)
        (try simp only [Reg.wpOne])
        go_wp2_with (fail)
        refine Reg.thenQ_mk ⟨⟨_, ⟨((unhide HF).hd.drew.other (a := ⟨w.heap.size + 1, 0, none⟩) (by show w.heap.size + 1 ≠ w.heap.size; omega) _).other (a := ⟨w.heap.size + 1 + 1, 0, none⟩) (by show w.heap.size + 1 + 1 ≠ w.heap.size; omega) _, ((unhide HF).hn.drew.put 0 _).other (a := ⟨w.heap.size + 1 + 1, 0, none⟩) (by show w.heap.size + 1 + 1 ≠ w.heap.size + 1; omega) _, (World.cell?_setCell_other _ _ _ _ (by intro e; injection e; omega)).trans ((World.cell?_setCell_other _ _ _ _ (by intro e; injection e; omega)).trans (unhide BD))⟩⟩, rfl⟩ ?_
        (try dsimp only)
        have hD9 := hide (((unhide HF).dec.other (p := ⟨w.heap.size + 1, 0, none⟩) (fun j hj => ((unhide HF).ft j hj).2.1) (.int .i64 i)).other (p := ⟨w.heap.size + 1 + 1, 0, none⟩) (fun j hj => ((unhide HF).ft j hj).2.2) (.int .i64 di.bad)).drew
        have hM9 := hide (((unhide HF).mov.fresh (p := ⟨w.heap.size + 1, 0, none⟩) (by show w.heap.size ≤ w.heap.size + 1; omega) (.int .i64 i)).fresh (p := ⟨w.heap.size + 1 + 1, 0, none⟩) (by show w.heap.size ≤ w.heap.size + 1 + 1; omega) (.int .i64 di.bad)).drew
        have n9 := (((unhide HF).hn.put 0 (.int .i64 i)).other (a := ⟨w.heap.size + 1 + 1, 0, none⟩) (by show w.heap.size + 1 + 1 ≠ w.heap.size + 1; omega) (.int .i64 di.bad)).drew.cell 0 _ rfl
        have s9 := (((unhide HF).hs.other (a := ⟨w.heap.size + 1, 0, none⟩) (by show w.heap.size + 1 ≠ w.heap.size + 1 + 1; omega) (.int .i64 i)).put 0 (.int .i64 di.bad)).drew.cell 0 _ rfl
        clear e1 s0 g1 e2 s2 g2 n2 n0 d0 p10 p11
        generalize ((wr.setCell ⟨w.heap.size + 1, 0, none⟩ (.int .i64 i)).setCell ⟨w.heap.size + 1 + 1, 0, none⟩ (.int .i64 di.bad)).drew = w9 at *
        go_wp2_with fail
        refine leaves_cons (f := 28) (args := #[.pointer (some ⟨w.heap.size, 0, none⟩), .pointer (some ⟨w.heap.size + 1, 0, none⟩), .pointer (some ⟨w.heap.size + 1 + 1, 0, none⟩)]) (by simp) (by simp [go_sem]) ?_
        refine (catch_idle w.heap.size (w.heap.size + 1) (w.heap.size + 1 + 1) _).mono ?_
        rintro e u' w'' ⟨rfl, rfl, rfl⟩
        refine ⟨.tuple #[.int .i64 i, .int .i64 di.bad], feed_res rfl rfl n9 s9, ?_⟩
        rw [HFIN.out]
        exact ⟨rfl, _, _, _, unhide hD9, unhide hM9⟩
    · have hfin : feedS sizeF flF d s.data.toList = (di, i) := by
        rw [hF.fd, List.drop_of_length_le (by simp; omega)]; rfl
      have hji : ¬ (i : Int) < s.size := by omega
      go_upto_region 7 with fail
      (try clear b1 b2); (try clear hb0)
      have HFIN := Lib.hid hfin
      have BD := hide (hF.dec.has.cell 10 _ rfl)
      have x0 : ∀ y : Reg.Kp (fun w' => Reg.Has w' w.heap.size [.pointer (some ⟨b, 0, none⟩)] ∧ Reg.Has w' (w.heap.size + 1) [.int .i64 i] ∧ w'.cell? ⟨b, 10, none⟩ = some (.int .i64 di.bad)), y.w.cell? ⟨w.heap.size, 0, none⟩ = some (.pointer (some ⟨b, 0, none⟩)) := fun y => y.h.1.cell 0 _ rfl
      have x1 : ∀ y : Reg.Kp (fun w' => Reg.Has w' w.heap.size [.pointer (some ⟨b, 0, none⟩)] ∧ Reg.Has w' (w.heap.size + 1) [.int .i64 i] ∧ w'.cell? ⟨b, 10, none⟩ = some (.int .i64 di.bad)), y.w.cell? ⟨w.heap.size + 1, 0, none⟩ = some (.int .i64 i) := fun y => y.h.2.1.cell 0 _ rfl
      have x2 : ∀ y : Reg.Kp (fun w' => Reg.Has w' w.heap.size [.pointer (some ⟨b, 0, none⟩)] ∧ Reg.Has w' (w.heap.size + 1) [.int .i64 i] ∧ w'.cell? ⟨b, 10, none⟩ = some (.int .i64 di.bad)), y.w.cell? ⟨b, 10, none⟩ = some (.int .i64 di.bad) := fun y => y.h.2.2
      have e1 := hF.hn.free 0 (by simp)
      have s0 := hF.hs.cell 0 _ rfl
      have g1 := hF.hs.free 0 (by simp)
      have e2 := hF.hn.drew.free 0 (by simp)
      have s2 := hF.hs.drew.cell 0 _ rfl
      have g2 := hF.hs.drew.free 0 (by simp)
      have n2 := hF.hn.drew.cell 0 _ rfl
      have HF := hide hF
      clear hF hfin
      have hkpne : Nonempty (Reg.Kp (fun w' => Reg.Has w' w.heap.size [.pointer (some ⟨b, 0, none⟩)] ∧ Reg.Has w' (w.heap.size + 1) [.int .i64 i] ∧ w'.cell? ⟨b, 10, none⟩ = some (.int .i64 di.bad))) := ⟨⟨_, ⟨(unhide HF).hd.drew, (unhide HF).hn.drew, unhide BD⟩⟩⟩
      refine Reg.region_plan3 (fun w' => Reg.Has w' w.heap.size [.pointer (some ⟨b, 0, none⟩)] ∧ Reg.Has w' (w.heap.size + 1) [.int .i64 i] ∧ w'.cell? ⟨b, 10, none⟩ = some (.int .i64 di.bad)) (.takes [0, 1, 2, 3, 4] (.ones [5, 6] .done)) (by kernel_rfl) (by kernel_rfl) (by kernel_rfl) (by decide) (feed_put (by kernel_rfl)) (⟨(unhide HF).hd.drew, (unhide HF).hn.drew, unhide BD⟩) ?_
      simp only [Reg.Plan3.takes, Reg.Plan3.ones, Reg.wpPlan3, List.getElem?_cons_zero, List.getElem?_cons_succ]
      refine Reg.take_read (by kernel_rfl) ?_
      go_big_quiet_step (fail)
      refine wpQuiet_nil ?_
      refine Reg.take_read (by kernel_rfl) ?_
      go_big_quiet_step (fail)
      refine wpQuiet_nil ?_
      refine Reg.take_nilq _ rfl ?_
      go_big_quiet_step (fail)
      refine wpQuiet_nil ?_
      refine Reg.take_read (by kernel_rfl) ?_
      go_big_quiet_step (fail)
      refine wpQuiet_nil ?_
      refine Reg.take_read (by kernel_rfl) ?_
      go_big_quiet_step (fail)
      refine wpQuiet_nil ?_
      have nb : w.heap.size + 1 ≠ b := by omega
      have nb' : b ≠ w.heap.size + 1 := by omega
      (try simp only [Reg.wpOne])
      go_wp2_with (fail)
      refine Reg.thenQ_mk ⟨⟨_, ⟨(unhide HF).hd.drew.other (a := ⟨w.heap.size + 1, 0, none⟩) (by show w.heap.size + 1 ≠ w.heap.size; omega) _, (unhide HF).hn.drew.put 0 _, (World.cell?_setCell_other _ _ _ _ (by intro e; injection e; omega)).trans (unhide BD)⟩⟩, rfl⟩ ?_
      (try dsimp only)
      (try simp only [Reg.wpOne])
      go_wp2_with (fail)
      refine Reg.thenQ_mk ⟨⟨_, ⟨((unhide HF).hd.drew.other (a := ⟨w.heap.size + 1, 0, none⟩) (by show w.heap.size + 1 ≠ w.heap.size; omega) _).other (a := ⟨w.heap.size + 1 + 1, 0, none⟩) (by show w.heap.size + 1 + 1 ≠ w.heap.size; omega) _, ((unhide HF).hn.drew.put 0 _).other (a := ⟨w.heap.size + 1 + 1, 0, none⟩) (by show w.heap.size + 1 + 1 ≠ w.heap.size + 1; omega) _, (World.cell?_setCell_other _ _ _ _ (by intro e; injection e; omega)).trans ((World.cell?_setCell_other _ _ _ _ (by intro e; injection e; omega)).trans (unhide BD))⟩⟩, rfl⟩ ?_
      (try dsimp only)
      have hD9 := hide (((unhide HF).dec.other (p := ⟨w.heap.size + 1, 0, none⟩) (fun j hj => ((unhide HF).ft j hj).2.1) (.int .i64 i)).other (p := ⟨w.heap.size + 1 + 1, 0, none⟩) (fun j hj => ((unhide HF).ft j hj).2.2) (.int .i64 di.bad)).drew
      have hM9 := hide (((unhide HF).mov.fresh (p := ⟨w.heap.size + 1, 0, none⟩) (by show w.heap.size ≤ w.heap.size + 1; omega) (.int .i64 i)).fresh (p := ⟨w.heap.size + 1 + 1, 0, none⟩) (by show w.heap.size ≤ w.heap.size + 1 + 1; omega) (.int .i64 di.bad)).drew
      have n9 := (((unhide HF).hn.put 0 (.int .i64 i)).other (a := ⟨w.heap.size + 1 + 1, 0, none⟩) (by show w.heap.size + 1 + 1 ≠ w.heap.size + 1; omega) (.int .i64 di.bad)).drew.cell 0 _ rfl
      have s9 := (((unhide HF).hs.other (a := ⟨w.heap.size + 1, 0, none⟩) (by show w.heap.size + 1 ≠ w.heap.size + 1 + 1; omega) (.int .i64 i)).put 0 (.int .i64 di.bad)).drew.cell 0 _ rfl
      clear e1 s0 g1 e2 s2 g2 n2 n0 d0 p10 p11
      generalize ((wr.setCell ⟨w.heap.size + 1, 0, none⟩ (.int .i64 i)).setCell ⟨w.heap.size + 1 + 1, 0, none⟩ (.int .i64 di.bad)).drew = w9 at *
      go_wp2_with fail
      refine leaves_cons (f := 28) (args := #[.pointer (some ⟨w.heap.size, 0, none⟩), .pointer (some ⟨w.heap.size + 1, 0, none⟩), .pointer (some ⟨w.heap.size + 1 + 1, 0, none⟩)]) (by simp) (by simp [go_sem]) ?_
      refine (catch_idle w.heap.size (w.heap.size + 1) (w.heap.size + 1 + 1) _).mono ?_
      rintro e u' w'' ⟨rfl, rfl, rfl⟩
      refine ⟨.tuple #[.int .i64 i, .int .i64 di.bad], feed_res rfl rfl n9 s9, ?_⟩
      rw [HFIN.out]
      exact ⟨rfl, _, _, _, unhide hD9, unhide hM9⟩
end Go.Proofs.YtkaaeajidejchaaGreatDoor.Sp
end

/- The decoder: New, Done, Body. -/
section
namespace Go.Proofs.YtkaaeajidejchaaGreatDoor.Sp
open Go.RowKit Sl

/-- a new decoder -/
def newD (L H C B : Int) : Dec := ⟨L.toNat, H.toNat, C.toNat, B.toNat, .size, [], [], 0, 0, [], 0, false⟩
theorem newD_ok (L H C B : Int) : Okd 0 (newD L H C B) := ⟨Nat.zero_le _, fun h => (by cases h), rfl, Nat.le_refl _, Nat.le_refl _, Nat.le_refl _, Nat.le_refl _⟩
theorem max_nat (x : Int) : max 0 x = (x.toNat : Int) := by omega

set_option maxRecDepth 100000 in
set_option maxHeartbeats 2000000 in
theorem new_any (w : World) (L H C B : Int) :
    Calls Tryz.prog 11 #[.agg #[.int .i64 L, .int .i64 H, .int .i64 C, .int .i64 B]] w fun e w' => e = .returned (.pointer (some ⟨w.heap.size + 1, 0, none⟩)) ∧
      DecAt w' w.heap.size (w.heap.size + 1) (nextV (w.heap.size + 1) .size) (newD L H C B) (.slice none 0 0) (.slice none 0 0) (.slice none 0 0) ∧ Below w.heap.size w w' := by
  have hmf : ∀ (fn : Fn) (first cap : Array Value) (w : World), (Instr.makeFunc fn first cap).run Tryz.prog w = .ok (.func fn first cap) w := fun _ _ _ _ => rfl
  have m1 := max_nat L
  have m2 := max_nat H
  have m3 := max_nat C
  have m4 := max_nat B
  unfold newD
  generalize L.toNat = l at *
  generalize H.toNat = h at *
  generalize C.toNat = c at *
  generalize B.toNat = bb at *
  go_enter Tryz.func11, Tryz.ntmps11
  go_wp2_with fail
  go_ret
  have hD : DecAt ((w.alloc (.cells #[.int .i64 L, .int .i64 H, .int .i64 C, .int .i64 B] 23)).alloc (.cells (decV (nextV (w.heap.size + 1) .size) ⟨l, h, c, bb, .size, [], [], 0, 0, [], 0, false⟩ (.slice none 0 0) (.slice none 0 0) (.slice none 0 0)).toArray 58)) w.heap.size (w.heap.size + 1) (nextV (w.heap.size + 1) .size) ⟨l, h, c, bb, .size, [], [], 0, 0, [], 0, false⟩ (.slice none 0 0) (.slice none 0 0) (.slice none 0 0) :=
    { has := Reg.Has.at _ _ _ _ (by simp)
      le := Nat.le_succ _
      line := World.ownsRow_nil _ _ _ _
      body := World.ownsRow_nil _ _ _ _
      trs := World.ownsRow_nil _ _ _ _
      nl := by simp [Value.ownBlock]
      nb := by simp [Value.ownBlock]
      nt := by simp [Value.ownBlock]
      lb := fun k e => by simp [Value.ownBlock] at e
      ltr := fun k e => by simp [Value.ownBlock] at e
      bt := fun k e => by simp [Value.ownBlock] at e }
  exact ⟨rfl, hD, ((Below.refl w.heap.size w).alloc (Nat.le_refl _) _).alloc (by simp) _⟩

set_option maxRecDepth 100000 in
theorem done_any (w : World) (base b : Nat) (nx : Value) (d : Dec) (ln bd tr : Value) (h : DecAt w base b nx d ln bd tr) :
    Calls Tryz.prog 12 #[.pointer (some ⟨b, 0, none⟩)] w fun e w' => e = .returned (.bool d.done) ∧ w = w' := by
  have p := h.has.cell 11 _ rfl
  clear h
  go_enter Tryz.func12, Tryz.ntmps12
  go_wp2_with fail
  go_ret
  exact ⟨rfl, rfl⟩
set_option maxRecDepth 100000 in
theorem body_any (w : World) (base b : Nat) (nx : Value) (d : Dec) (ln bd tr : Value) (h : DecAt w base b nx d ln bd tr) :
    Calls Tryz.prog 14 #[.pointer (some ⟨b, 0, none⟩)] w fun e w' => e = .returned (.string (ofL d.body)) ∧ w = w' := by
  have p := h.has.cell 6 _ rfl
  have hr := run_text_own h.body
  clear h
  go_enter Tryz.func14, Tryz.ntmps14
  go_wp2_with fail
  go_ret
  exact ⟨rfl, rfl⟩
end Go.Proofs.YtkaaeajidejchaaGreatDoor.Sp
end

/- The chapter's example of chunks. -/
section
namespace Go.Proofs.YtkaaeajidejchaaGreatDoor.Sp
open Go.RowKit Sl

theorem MaxV.lt {w : World} (h : MaxV w) : 5 < w.heap.size := by
  obtain ⟨m, hm⟩ := h
  exact World.block_lt_of_cell? w _ hm
theorem roomy_any (w : World) : Calls Tryz.prog 25 #[] w fun e w' => e = .returned (.agg #[.int .i64 200, .int .i64 1000, .int .i64 30, .int .i64 1000]) ∧ Below w.heap.size w w' := by
  go_enter Tryz.func25, Tryz.ntmps25
  go_wp2_with fail
  have HF := Reg.Has.new w [.int .i64 200, .int .i64 1000, .int .i64 30, .int .i64 1000] 23
  have hl := run_loadVar_mid (P := Tryz.prog) _ w.heap.size 0 23 [.int .i64 200, .int .i64 1000, .int .i64 30, .int .i64 1000] _ (has_range HF) Tryz.underlying23 rfl (by kernel_rfl)
  exact bodyPost_ret (Mem.results_cell1 (ad := ⟨w.heap.size, 0, none⟩) Tryz.results25 rfl hl) rfl ⟨rfl, (Below.refl _ _).alloc (Nat.le_refl _) _⟩
/-- a decoder that is fed, behind its making: the world in which New was called is w -/
theorem feedN_any (w : World) (b : Nat) (d : Dec) (ln bd tr : Value) (s : ByteArray) (k base : Nat) (h : DecAt w base b (nextV b d.st) d ln bd tr) (hok : Okd k d) (hk : k + s.size ≤ 800000) (hbase : base ≤ w.heap.size) (hB : d.B ≤ 9223372036854775807) (hM : MaxV w) (hMb : 5 < base) (d' : Dec) (n : Nat) (hf : feedS sizeF flF d s.data.toList = (d', n)) :
    Calls Tryz.prog 13 #[.pointer (some ⟨b, 0, none⟩), .string s] w fun e w' => e = .returned (.tuple #[.int .i64 n, .int .i64 d'.bad]) ∧ ∃ ln' bd' tr', DecAt w' base b (nextV b d'.st) d' ln' bd' tr' ∧ Moves b w ln bd tr w' ln' bd' tr' := by
  have := feed_any w base b d ln bd tr s k h hok hk hbase hB hM hMb
  rw [hf] at this
  exact this

def exB : List UInt8 := [51, 13, 10, 97, 98, 99, 13, 10, 48, 13, 10, 13, 10, 120]
theorem ex_n : (feedS sizeF flF (newD 200 1000 30 1000) exB).2 = 13 := by decide +kernel
theorem ex_bad : (feedS sizeF flF (newD 200 1000 30 1000) exB).1.bad = 0 := by decide +kernel
theorem ex_done : (feedS sizeF flF (newD 200 1000 30 1000) exB).1.done = true := by decide +kernel
theorem ex_body : (feedS sizeF flF (newD 200 1000 30 1000) exB).1.body = [97, 98, 99] := by decide +kernel

set_option maxRecDepth 100000 in
set_option maxHeartbeats 2000000 in
theorem lives5_any (w : World) (hM : MaxV w) : Calls Tryz.prog 9 #[] w fun e w' => e = .returned (.bool true) ∧ Below w.heap.size w w' := by
  obtain ⟨d', hd'⟩ : ∃ d', (feedS sizeF flF (newD 200 1000 30 1000) exB).1 = d' := ⟨_, rfl⟩
  have hf : feedS sizeF flF (newD 200 1000 30 1000) exB = (d', 13) := by rw [← hd', ← ex_n]
  have e1 := ex_bad
  have e2 := ex_done
  have e3 := ex_body
  rw [hd'] at e1 e2 e3
  have HF := Lib.hid hf
  have E1 := Lib.hid e1
  have E2 := Lib.hid e2
  have E3 := Lib.hid e3
  have HM := hide hM
  clear hf hd' e1 e2 e3 hM
  go_enter Tryz.func9, Tryz.ntmps9
  go_upto_region 4 with (first
    | (go_at_call 25; refine (roomy_any _).mono ?_; rintro e w1 ⟨rfl, hb1⟩; have HB1 := hide hb1; clear hb1)
    | (go_at_call 11; refine (new_any _ _ _ _ _).mono ?_; rintro e w2 ⟨rfl, h2, hb2⟩; have H2 := hide h2; have HB2 := hide hb2; clear h2 hb2))
  have HB12 := hide ((unhide HB1).trans ((unhide HB2).mono (unhide HB1).size))
  have hb3 : w1.heap.size ≤ w2.heap.size := (unhide HB2).size
  have hMl : 5 < w1.heap.size := Nat.lt_of_lt_of_le (unhide HM).lt (unhide HB1).size
  have HFE := hide (feedN_any w2 (w1.heap.size + 1) (newD 200 1000 30 1000) _ _ _ ⟨#[51, 13, 10, 97, 98, 99, 13, 10, 48, 13, 10, 13, 10, 120]⟩ 0 w1.heap.size (unhide H2) (newD_ok _ _ _ _) (by decide) hb3 (by decide) ((unhide HM).below (unhide HB12)) hMl d' 13 HF.out)
  go_upto_region 5 with (go_at_call 13; refine (unhide HFE).mono ?_; rintro e w3 ⟨rfl, ln3, bd3, tr3, h3, m3⟩)
  have H3 := hide h3
  have HB3 := hide ((unhide HB12).trans (m3.below (unhide H2) (unhide HB1).size (by have := (unhide HB12).size; exact this)))
  rw [E1.out]
  have hdn := done_any w3 _ _ _ _ _ _ _ h3
  rw [E2.out] at hdn
  have hbo := body_any w3 _ _ _ _ _ _ _ h3
  rw [E3.out] at hbo
  have HDN := hide hdn
  have HBO := hide hbo
  clear h3 m3 hdn hbo HFE
  go_wp2_with (first
    | (go_at_call 12; refine (unhide HDN).mono ?_; rintro e w4 ⟨rfl, rfl⟩)
    | (go_at_call 14; refine (unhide HBO).mono ?_; rintro e w5 ⟨rfl, rfl⟩))
  all_goals go_ret
  all_goals exact ⟨ret_bool (by first | rfl | decide +kernel), unhide HB3⟩
end Go.Proofs.YtkaaeajidejchaaGreatDoor.Sp
end

/- The decoder: Trailers (a copy of slices whose elements have two cells). -/
section
namespace Go.Proofs.YtkaaeajidejchaaGreatDoor.Sp
open Go.RowKit Sl

theorem run_copy_two {P : Program} (w : World) (dT sT ty elem : TypeId) (g n dCap : Nat) (a : Addr) (sCap : Nat) (cur : Array Value) (t : TypeId) (cs : List Value) (i : TypeInfo)
    (hu : P.underlying dT = some (.slice elem)) (hq : P.info? elem = some i) (hi : i.size = 2) (hg : w.heap[g]? = some (.cells cur t (0, 0))) (hcs : cs.length = n * 2)
    (hsrc : ∀ j v, cs[j]? = some v → w.cell? (a.add j) = some v) (hcur : cur.size = n * 2) (h1 : ∀ v ∈ cs, v.oneCell' = true) :
    (Builtin.copy_ #[dT, sT] ty #[.slice (some ⟨g, 0, none⟩) n dCap, .slice (some a) n sCap]).run P w = .ok (goInt n) (w.setRow g cs.toArray) := by
  have hl := run_loadCells_list (P := P) w a cs hsrc
  have hst := run_storeCells_at P g 0 t cs 0 cur w hg (by omega) h1
  have hd : cur.toList.drop (0 + 0 + cs.length) = [] := List.drop_of_length_le (by rw [Array.length_toList]; omega)
  rw [hd] at hst
  rw [hcs] at hl
  simp only [Nat.add_zero, List.take_zero, List.nil_append, List.append_nil] at hst
  simp [Builtin.copy_, run_underlying hu, Builtin.lenOf, Builtin.firstCells, sizeOf, typeInfo, hq, hi, hl, hst]
section
variable {P : Program} {w : World} {ops : Array Oper} {rest : List Oper} {o : Oper} {a : Act} {Q : Exit → Act → World → Prop}
theorem wpList_copy_two (hgd : o.guard = none) (x y : Operand) (dT sT elem : TypeId) (ho : o.op = .call { callee := .builtin .copy, args := #[x, y], argTypes := #[dT, sT] }) (g n dCap : Nat) (ad : Addr) (sCap : Nat) (cur : Array Value) (t : TypeId) (cs : List Value) (i : TypeInfo)
    (hu : P.underlying dT = some (.slice elem)) (hq : P.info? elem = some i) (hi : i.size = 2) (hx : a.eval x = .slice (some ⟨g, 0, none⟩) n dCap) (hy : a.eval y = .slice (some ad) n sCap) (hg : w.heap[g]? = some (.cells cur t (0, 0))) (hcs : cs.length = n * 2)
    (hsrc : ∀ j v, cs[j]? = some v → w.cell? (ad.add j) = some v) (hcur : cur.size = n * 2) (h1 : ∀ v ∈ cs, v.oneCell' = true)
    (h : wpList P ops Q rest (a.put o.dst (goInt n)) (w.setRow g cs.toArray)) : wpList P ops Q (o :: rest) a w := by
  refine wpList_plain hgd fun K hK => ?_
  have hrun := run_copy_two (P := P) w dT sT o.type elem g n dCap ad sCap cur t cs i hu hq hi hg hcs hsrc hcur h1
  unfold Oper.wp
  simp [execOp, ho, resolve, invoke, builtin, hx, hy, hrun, Result.andThen]
  exact hK _ _ h
theorem wpList_copy_none2 (hgd : o.guard = none) (x y : Operand) (dT sT elem : TypeId) (ho : o.op = .call { callee := .builtin .copy, args := #[x, y], argTypes := #[dT, sT] }) (g n dCap : Nat) (i : TypeInfo)
    (hu : P.underlying dT = some (.slice elem)) (hq : P.info? elem = some i) (hx : a.eval x = .slice (some ⟨g, 0, none⟩) n dCap) (hy : a.eval y = .slice none 0 0)
    (h : wpList P ops Q rest (a.put o.dst (goInt 0)) w) : wpList P ops Q (o :: rest) a w := by
  refine wpList_plain hgd fun K hK => ?_
  have hrun := run_copy_nil (P := P) w dT sT o.type elem ⟨g, 0, none⟩ n dCap hu (by rw [hq]; rfl)
  unfold Oper.wp
  simp [execOp, ho, resolve, invoke, builtin, hx, hy, hrun, Result.andThen]
  exact hK _ _ h
end

set_option maxRecDepth 100000 in
set_option maxHeartbeats 2000000 in
theorem trailers_any (w : World) (base b : Nat) (nx : Value) (d : Dec) (ln bd tr : Value) (h : DecAt w base b nx d ln bd tr) (hl : d.tr.length ≤ 1000000) :
    Calls Tryz.prog 20 #[.pointer (some ⟨b, 0, none⟩)] w fun e w' => ∃ v, e = .returned v ∧ Rd w' v d.tr.length 2 (fldV d.tr) ∧ Below w.heap.size w w' := by
  have HD := hide h
  have p9 := h.has.cell 9 _ rfl
  have hrd := Rd.own h.trs
  obtain ⟨ao, cap, htr, hcap, hnone, hlen, hcell⟩ := hrd
  (try simp only at p9)
  rw [htr] at p9
  obtain ⟨i, hi, hz, h1, h2⟩ := info_parts (P := Tryz.prog) (e := 50) (z := .agg #[.string ⟨#[]⟩, .string ⟨#[]⟩]) (size := 2) (bytes := 32) (by kernel_rfl)
  obtain ⟨n, hn⟩ : ∃ n, d.tr.length = n := ⟨_, rfl⟩
  rw [hn] at p9 hl
  have HN := Lib.hid hn
  have HI := Lib.hid hi
  have HZ := Lib.hid hz
  have H1 := Lib.hid h1
  have H2 := Lib.hid h2
  have HC := hide hcell
  have HNO := hide hnone
  have zb := h.has.lt
  clear h htr hn hi hz h1 h2 hcell hnone hlen
  go_enter Tryz.func20, Tryz.ntmps20
  go_upto_region 4 with (refine wpList_make_full _ rfl _ _ 41 rfl w.heap.size 50 i _ 2 Tryz.underlying41 HI.out HZ.out H1.out _ _ _ _ n rfl rfl rfl rfl (by rw [H2.out]; omega) (by unfold maxLen; omega) (Nat.le_refl _) ?_; intro w1 hown hgr)
  have hb1 : Below w.heap.size w w1 := (Below.refl _ _).grown hgr (Nat.le_refl _) (fun k h => by cases h)
  obtain ⟨cur, hg, hcs⟩ : ∃ cur : Array Value, w1.heap[w.heap.size]? = some (.cells cur 50 (0, 0)) ∧ cur.size = n * 2 := by
    rcases hown.2 with ⟨e, _⟩ | ⟨g, cp, cur, e, _, hg, _, _, hcs, _⟩
    · simp at e
    · injection e with e1 e2 e3
      injection e1 with e1
      injection e1 with e1
      subst e1
      subst e3
      exact ⟨cur, hg, hcs⟩
  have hD1 := (unhide HD).call hb1
  have q9 : w1.cell? ⟨b, 9, none⟩ = some (.slice ao n cap) := (hb1.cell (p := ⟨b, 9, none⟩) zb).trans p9
  have hglt : w.heap.size < w1.heap.size := by
    rcases Nat.lt_or_ge w.heap.size w1.heap.size with h | h
    · exact h
    · rw [Array.getElem?_eq_none h] at hg; cases hg
  have HB1 := hide hb1
  have HG := hide hg
  have HCS := Lib.hid hcs
  clear hown hgr p9 zb hb1 hg hcs hD1
  cases ao with
  | none =>
    obtain rfl : cap = 0 := unhide HNO rfl
    obtain rfl : n = 0 := by have := HN.out; omega
    have htr0 : d.tr = [] := List.eq_nil_of_length_eq_zero HN.out
    go_wp2_with (refine wpList_copy_none2 rfl _ _ _ _ 50 rfl w.heap.size 0 0 i Tryz.underlying41 HI.out rfl rfl ?_)
    refine bodyPost_ret (results_tmp rfl _ _ _) rfl ⟨_, rfl, ?_, unhide HB1⟩
    exact ⟨_, 0, rfl, Nat.le_refl _, fun h => (by cases h), rfl, fun h => absurd rfl h⟩
  | some ad =>
    have hsrc : ∀ j v, (fldV d.tr)[j]? = some v → w1.cell? (ad.add j) = some v := by
      intro j v hv
      obtain ⟨b2, off, e, hlt, hc⟩ := unhide HC (by intro e; rw [e] at hv; simp at hv)
      cases e
      rw [Addr.add_mid]
      exact ((unhide HB1).cell (p := ⟨b2, off + j, none⟩) hlt).trans (hc j v hv)
    have h1c : ∀ v ∈ fldV d.tr, v.oneCell' = true := by
      intro v hv
      simp only [fldV, List.mem_flatMap] at hv
      obtain ⟨f, _, hv⟩ := hv
      simp at hv
      rcases hv with rfl | rfl <;> rfl
    have hlen : (fldV d.tr).length = n * 2 := by rw [fldV_len, HN.out]
    have HSR := hide hsrc
    have H1C := hide h1c
    have HLE := Lib.hid hlen
    have HCC := HC
    clear hsrc h1c hlen HC
    go_wp2_with (refine wpList_copy_two rfl _ _ _ _ 50 rfl w.heap.size n n ad cap cur 50 (fldV d.tr) i Tryz.underlying41 HI.out H1.out rfl rfl (unhide HG) HLE.out (unhide HSR) HCS.out (unhide H1C) ?_)
    refine bodyPost_ret (results_tmp rfl _ _ _) rfl ⟨_, rfl, ?_, below_setRow (unhide HB1) (Nat.le_refl _) _⟩
    rw [HN.out]
    refine ⟨some ⟨w.heap.size, 0, none⟩, n, rfl, Nat.le_refl _, fun h => (by cases h), HLE.out, fun _ => ⟨w.heap.size, 0, rfl, ?_, fun j u hu => ?_⟩⟩
    · simpa [World.setRow] using hglt
    · rw [Nat.zero_add, cell_of_row _ w.heap.size j (fldV d.tr).toArray 50 (0, 0) (setRow_heap w1 w.heap.size cur _ 50 _ (unhide HG))]
      simpa using hu
end Go.Proofs.YtkaaeajidejchaaGreatDoor.Sp
end
