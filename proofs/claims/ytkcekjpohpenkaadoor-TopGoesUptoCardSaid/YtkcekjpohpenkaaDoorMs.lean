/- The assembly in plain Lean: blocks, votes, members, what was given up; no program in sight. -/
set_option linter.unusedVariables false
set_option linter.unusedSimpArgs false
namespace Go.Proofs.YtkcekjpohpenkaaDoor.Mo

/-- how many of the first 32 bits are set -/
def pop (x : Nat) : Nat := (List.range 32).countP fun i => x.testBit i
def pop8 (x : Nat) : Nat := (List.range 8).countP fun i => x.testBit i

theorem pop_split (x : Nat) (h : x < 4294967296) : pop x = pop8 (x / 16777216) + pop8 (x / 65536 % 256) + pop8 (x / 256 % 256) + pop8 (x % 256) := by
  have h0 : ∀ i, i < 8 → (x % 256).testBit i = x.testBit i := by intro i hi; rw [show 256 = 2 ^ 8 from rfl, Nat.testBit_mod_two_pow]; simp [hi]
  have h1 : ∀ i, i < 8 → (x / 256 % 256).testBit i = x.testBit (i + 8) := by
    intro i hi; rw [show 256 = 2 ^ 8 from rfl, Nat.testBit_mod_two_pow, Nat.testBit_div_two_pow]; simp [hi]
  have h2 : ∀ i, i < 8 → (x / 65536 % 256).testBit i = x.testBit (i + 16) := by
    intro i hi; rw [show 256 = 2 ^ 8 from rfl, show 65536 = 2 ^ 16 from rfl, Nat.testBit_mod_two_pow, Nat.testBit_div_two_pow]; simp [hi]
  have h3 : ∀ i, i < 8 → (x / 16777216).testBit i = x.testBit (i + 24) := by
    intro i hi; rw [show 16777216 = 2 ^ 24 from rfl, Nat.testBit_div_two_pow]
  unfold pop pop8
  simp only [List.countP_eq_length_filter]
  have e8 : List.range 8 = [0,1,2,3,4,5,6,7] := by decide
  have e32 : List.range 32 = [0,1,2,3,4,5,6,7,8,9,10,11,12,13,14,15,16,17,18,19,20,21,22,23,24,25,26,27,28,29,30,31] := by decide
  rw [← List.countP_eq_length_filter, ← List.countP_eq_length_filter, ← List.countP_eq_length_filter, ← List.countP_eq_length_filter, ← List.countP_eq_length_filter, e8, e32]
  simp only [List.countP_cons, List.countP_nil, h0, h1, h2, h3, Nat.reduceLT, Nat.reduceAdd]
  omega

theorem pop8_le (x : Nat) : pop8 x ≤ 8 := by
  unfold pop8
  exact Nat.le_trans List.countP_le_length (by simp)


/-- one step of a script -/
structure Say where
  kind : Int
  who : Int
  block : Int
  round : Int
  high : Int

structure St where
  blocks : List (Int × Int)        -- parent, round
  votes : List Nat
  members : List (Int × Int)       -- voted, knows
  late : List (Int × Int × Int)    -- round, who, high
  gave : List (Int × Int)          -- who, round

structure Cfg where
  n : Nat
  need : Nat
  liars : Nat

def lies (c : Cfg) (i : Nat) : Bool := c.liars.testBit i
def certified (c : Cfg) (s : St) (b : Nat) : Bool := b == 0 || decide (c.need ≤ pop (s.votes.getD b 0))
def isBlock (s : St) (b : Int) : Bool := decide (0 ≤ b) && decide (b < s.blocks.length)
def rnd (s : St) (b : Nat) : Int := (s.blocks.getD b (0, 0)).2
def par (s : St) (b : Nat) : Int := (s.blocks.getD b (0, 0)).1
def voted (s : St) (i : Nat) : Int := (s.members.getD i (0, 0)).1
def knows (s : St) (i : Nat) : Int := (s.members.getD i (0, 0)).2

def behind (c : Cfg) (s : St) (x : Say) : St × Int :=
  if isBlock s x.block = false ∨ x.round ≤ rnd s x.block.toNat ∨ 1000 < x.round then (s, 2)
  else if certified c s x.block.toNat = false then (s, 6)
  else if s.blocks.length = 40 then (s, 7)
  else ({ s with blocks := s.blocks ++ [(x.block, x.round)], votes := s.votes ++ [0] }, 0)

def gaveUp (s : St) (round high : Int) (i : Nat) : Bool := s.late.any fun g => decide (g.1 = round) && decide (g.2.1 = (i : Int)) && decide (g.2.2 ≤ high)
def passed (c : Cfg) (s : St) (round high : Int) : Bool := decide (c.need ≤ (List.range 32).countP (gaveUp s round high))
def agrees (c : Cfg) (s : St) (i b : Nat) : Bool :=
  decide (voted s i < rnd s b) && (decide (rnd s (par s b).toNat = rnd s b - 1) || passed c s (rnd s b - 1) (rnd s (par s b).toNat))

def vote (c : Cfg) (s : St) (i : Nat) (b : Int) : St × Int :=
  if isBlock s b = false ∨ b = 0 then (s, 2)
  else if (s.votes.getD b.toNat 0).testBit i = true ∨ (lies c i = false ∧ agrees c s i b.toNat = false) then (s, 6)
  else
    let s1 := { s with votes := s.votes.set b.toNat (s.votes.getD b.toNat 0 ||| 2 ^ i) }
    if lies c i = true then (s1, 0)
    else ({ s1 with members := s.members.set i (rnd s b.toNat, max (knows s i) (rnd s (par s b.toNat).toNat)) }, 0)

def giveUp (c : Cfg) (s : St) (x : Say) : St × Int :=
  if x.round < 1 ∨ 1000 < x.round then (s, 2)
  else if lies c x.who.toNat = true then
    if (List.range s.blocks.length).any (fun b => decide (rnd s b = x.high) && certified c s b) = true then ({ s with late := (x.round, x.who, x.high) :: s.late }, 0)
    else (s, 2)
  else if (x.who, x.round) ∈ s.gave then (s, 6)
  else ({ s with gave := (x.who, x.round) :: s.gave, members := s.members.set x.who.toNat (max (voted s x.who.toNat) x.round, knows s x.who.toNat), late := (x.round, x.who, knows s x.who.toNat) :: s.late }, 0)

def learn (c : Cfg) (s : St) (i : Nat) (b : Int) : St × Int :=
  if isBlock s b = false then (s, 2)
  else if certified c s b.toNat = false ∨ lies c i = true then (s, 6)
  else ({ s with members := s.members.set i (voted s i, max (knows s i) (rnd s b.toNat)) }, 0)

def step (c : Cfg) (s : St) (x : Say) : St × Int :=
  if x.kind < 1 ∨ 4 < x.kind then (s, 4)
  else if x.kind = 1 then behind c s x
  else if x.who < 0 ∨ (c.n : Int) ≤ x.who then (s, 2)
  else if x.kind = 2 then vote c s x.who.toNat x.block
  else if x.kind = 3 then giveUp c s x
  else learn c s x.who.toNat x.block

def start (c : Cfg) : St := { blocks := [(-1, 0)], votes := [0], members := List.replicate c.n (0, 0), late := [], gave := [] }

/-- the script's end: the state and the codes -/
def run (c : Cfg) : St → List Say → St × List Int
  | s, [] => (s, [])
  | s, x :: r => let p := step c s x; let q := run c p.1 r; (q.1, p.2 :: q.2)

/-- what holds of every state on the way -/
structure WF (c : Cfg) (s : St) : Prop where
  n1 : 1 ≤ c.n
  n7 : c.n ≤ 7
  need : c.need ≤ c.n
  liars : c.liars < 2 ^ c.n
  len1 : 1 ≤ s.blocks.length
  len40 : s.blocks.length ≤ 40
  vlen : s.votes.length = s.blocks.length
  mlen : s.members.length = c.n
  first : s.blocks.getD 0 (0, 0) = (-1, 0)
  par : ∀ b, 0 < b → b < s.blocks.length → 0 ≤ par s b ∧ par s b < b ∧ rnd s (par s b).toNat < rnd s b
  rnd : ∀ b, b < s.blocks.length → 0 ≤ rnd s b ∧ rnd s b ≤ 1000
  votes : ∀ b, s.votes.getD b 0 < 2 ^ c.n
  voted : ∀ i, i < c.n → 0 ≤ voted s i ∧ voted s i ≤ 1000
  knows : ∀ i, i < c.n → 0 ≤ knows s i ∧ knows s i ≤ 1000
  late : ∀ x ∈ s.late, 1 ≤ x.1 ∧ x.1 ≤ 1000 ∧ 0 ≤ x.2.1 ∧ x.2.1 < c.n ∧ 0 ≤ x.2.2 ∧ x.2.2 ≤ 1000
  gave : ∀ x ∈ s.gave, 0 ≤ x.1 ∧ x.1 < c.n ∧ 1 ≤ x.2 ∧ x.2 ≤ 1000

end Go.Proofs.YtkcekjpohpenkaaDoor.Mo
