/- Plain arithmetic of the retry budget: what each budget function computes, over Int; no program in sight. -/
namespace Go.Proofs.Ytdaankgaigjahaa.Bud

/-- the configuration is valid -/
def okC (r s m : Int) : Prop := 0 ≤ r ∧ r ≤ 1048576 ∧ 0 ≤ s ∧ s ≤ 1048576 ∧ 0 ≤ m ∧ m ≤ 1048576
instance (r s m : Int) : Decidable (okC r s m) := by unfold okC; infer_instance
/-- the budget and the time are valid -/
def okB (m h a n : Int) : Prop := 0 ≤ n ∧ n ≤ 253402300799 ∧ 0 ≤ h ∧ h ≤ m ∧ 0 ≤ a ∧ a ≤ 253402300799
instance (m h a n : Int) : Decidable (okB m h a n) := by unfold okB; infer_instance

def chk (r s m : Int) : Int := if okC r s m then 0 else 260
def mayE (r s m h a n : Int) : Int := if okC r s m then (if okB m h a n then 0 else 2) else 260
/-- what is there as of a time (valid arguments) -/
def asH (s m h a n : Int) : Int := if n ≤ a then h else if s = 0 then h else if n - a ≤ (m - h) / s then h + (n - a) * s else m
def asA (a n : Int) : Int := if n ≤ a then a else n

def atH (r s m h a n : Int) : Int := if okC r s m ∧ okB m h a n then asH s m h a n else h
def atA (r s m h a n : Int) : Int := if okC r s m ∧ okB m h a n then asA a n else a

theorem asH_bd {r s m h a n : Int} (hc : okC r s m) (hb : okB m h a n) : h ≤ asH s m h a n ∧ asH s m h a n ≤ m := by
  obtain ⟨c1, c2, c3, c4, c5, c6⟩ := hc
  obtain ⟨b1, b2, b3, b4, b5, b6⟩ := hb
  unfold asH
  split
  · omega
  split
  · omega
  split
  · rename_i hn hs hd
    have hp0 : 0 ≤ (n - a) * s := Int.mul_nonneg (by omega) c3
    have hp1 : (n - a) * s ≤ m - h := Int.le_trans (Int.mul_le_mul_of_nonneg_right hd c3) (Int.ediv_mul_le _ hs)
    omega
  · omega
theorem asA_bd {m h a n : Int} (hb : okB m h a n) : a ≤ asA a n ∧ n ≤ asA a n ∧ asA a n ≤ 253402300799 := by
  obtain ⟨b1, b2, b3, b4, b5, b6⟩ := hb
  unfold asA; split <;> omega

def newH (r s m : Int) : Int := if okC r s m then m else 0
def rqH (r s m h a n : Int) : Int := if okC r s m ∧ okB m h a n then min m (asH s m h a n + r) else h
def rtOK (r s m h a n : Int) : Prop := okC r s m ∧ okB m h a n ∧ 1000 ≤ asH s m h a n
instance (r s m h a n : Int) : Decidable (rtOK r s m h a n) := by unfold rtOK; infer_instance
def rtH (r s m h a n : Int) : Int := if rtOK r s m h a n then asH s m h a n - 1000 else h
def rtA (r s m h a n : Int) : Int := if rtOK r s m h a n then asA a n else a
def rtE (r s m h a n : Int) : Int := if rtOK r s m h a n then 0 else if okC r s m ∧ okB m h a n then 9 else mayE r s m h a n

end Go.Proofs.Ytdaankgaigjahaa.Bud
