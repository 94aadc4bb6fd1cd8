/- Plain words for jobs, limits: what may be, what a lease, a failure make of one. No program in sight. -/
namespace Go.Proofs.YtaelddnkdklijaaDoor.Jp

structure Lim where
  base : Int
  cap : Int
  tries : Int

structure Job where
  id : Int
  name : ByteArray
  rule : ByteArray
  payload : ByteArray
  status : Int
  due : Int
  tries : Int
  worker : Int
  token : Int
  till : Int

def zero : Job := ⟨0, ⟨#[]⟩, ⟨#[]⟩, ⟨#[]⟩, 0, 0, 0, 0, 0, 0⟩

structure Rl where
  mi : Int
  ho : Int
  da : Int
  mo : Int
  we : Int
  anyD : Bool
  anyW : Bool

def within (n a b : Int) : Bool := decide (a ≤ n) && decide (n ≤ b)

def limOk (l : Lim) : Bool := !(decide (l.base < 1) || decide (1048576 < l.base) || decide (l.cap < l.base) || decide (1073741824 < l.cap) || decide (l.tries < 1) || decide (16 < l.tries))

theorem limOk_iff (b c t : Int) : limOk ⟨b, c, t⟩ = true ↔ 1 ≤ b ∧ b ≤ 1048576 ∧ b ≤ c ∧ c ≤ 1073741824 ∧ 1 ≤ t ∧ t ≤ 16 := by
  simp only [limOk, Bool.not_eq_true', Bool.or_eq_false_iff, decide_eq_false_iff_not]
  omega

theorem limOk_not (b c t : Int) (h : limOk ⟨b, c, t⟩ = false) : b < 1 ∨ 1048576 < b ∨ c < b ∨ 1073741824 < c ∨ t < 1 ∨ 16 < t := by
  have h1 : ¬ (1 ≤ b ∧ b ≤ 1048576 ∧ b ≤ c ∧ c ≤ 1073741824 ∧ 1 ≤ t ∧ t ≤ 16) := fun h2 => by
    rw [(limOk_iff b c t).2 h2] at h
    cases h
  omega

def holderMay (worker token till : Int) : Bool := within worker 1 2147483648 && (within token 1 1099511627776 && within till 0 32503680000)

/-- How long behind the k-th failure. -/
def delayF (l : Lim) (k : Int) : Int := min l.cap (l.base * (2 ^ k.toNat : Nat))

/-- An error's number where a thing may not be. -/
def eno (r : Bool) (n : Int) : Int := if r = true then 0 else n

def noHolder (j : Job) : Bool := decide (j.worker = 0) && (decide (j.token = 0) && decide (j.till = 0))

/-- pe: the number of the error that reading a rule ends with (0: none). -/
def ruleOk (pe : ByteArray → Int) (s : ByteArray) : Bool := s.toList.isEmpty || (decide (pe s = 0) && decide ((s.size : Int) ≤ 200))

def sizesOk (j : Job) : Bool := within j.id 1 1099511627776 && decide ((j.name.size : Int) ≤ 32) && decide ((j.payload.size : Int) ≤ 200) && within j.due 0 32503680000 && within j.tries 0 16

def statusOk (j : Job) : Bool :=
  if j.status = 2 then holderMay j.worker j.token j.till && decide (j.due = 0)
  else if j.status = 3 then j.rule.toList.isEmpty && noHolder j
  else if j.status = 1 then noHolder j else false

def jobOk (pe : ByteArray → Int) (j : Job) : Bool := sizesOk j && (statusOk j && ruleOk pe j.rule)

def maxTime : Int := 32503680000

/-- A job behind a failure, and the number of the error; nx: when a rule comes next, and does it. -/
def failF (pe : ByteArray → Int) (nx : ByteArray → Int → Int × Bool) (j : Job) (l : Lim) (now : Int) : Job × Int :=
  if jobOk pe j = false then (zero, 9)
  else if limOk l = false then (zero, 4)
  else if ¬ j.status = 2 then (zero, 81)
  else if within now 0 32503679999 = false then (zero, 4)
  else if now + delayF l (min (j.tries + 1) 16 - 1) < maxTime ∧ min (j.tries + 1) 16 < l.tries then
    (⟨j.id, j.name, j.rule, j.payload, 1, now + delayF l (min (j.tries + 1) 16 - 1), min (j.tries + 1) 16, 0, 0, 0⟩, 0)
  else if j.rule.toList.isEmpty = false ∧ (nx j.rule now).2 = true then (⟨j.id, j.name, j.rule, j.payload, 1, (nx j.rule now).1, 0, 0, 0, 0⟩, 0)
  else (⟨j.id, j.name, ⟨#[]⟩, j.payload, 3, now, min (j.tries + 1) 16, 0, 0, 0⟩, 0)

def leaseF (pe : ByteArray → Int) (j : Job) (worker token till : Int) : Job × Int :=
  if jobOk pe j = false then (zero, 9)
  else if ¬ j.status = 1 then (zero, 81)
  else if holderMay worker token till = false then (zero, 4)
  else (⟨j.id, j.name, j.rule, j.payload, 2, 0, j.tries, worker, token, till⟩, 0)

end Go.Proofs.YtaelddnkdklijaaDoor.Jp
