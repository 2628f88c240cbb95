import Derived.Test.YtkcekjpohpenkaaDoorBerr
/- book.Play, put together. -/
set_option linter.unusedVariables false
set_option linter.unusedSimpArgs false
set_option maxRecDepth 100000
namespace Go.Proofs.YtkcekjpohpenkaaDoor
open Go.RowKit Mo


def ledCode (m : List Int) (k : Nat) : Int := if m.length = 0 ∨ 12 < m.length ∨ 60 < k then 1 else if m.any bad = true then 2 else 0
def bookCode (c : Cfg) (s : St) (m : List Int) (pp : List (List Lg.Pay)) : Int := if 60 < (paid c s pp).length then 7 else ledCode m (paid c s pp).length

theorem paid_neg {c : Cfg} {s : St} (pp : List (List Lg.Pay)) (h : lastTo c s s.blocks.length < 0) : paid c s pp = [] := by unfold paid; rw [if_pos h]
theorem paid_pos {c : Cfg} {s : St} (pp : List (List Lg.Pay)) (h : 0 ≤ lastTo c s s.blocks.length) : paid c s pp = gather pp (path s.blocks (lastTo c s s.blocks.length)) := by unfold paid; rw [if_neg (by omega)]

/-- where the ledger says no -/
theorem led_no (ma : Option Addr) (m : List Int) (mcap k : Nat) (h : ledCode m k ≠ 0) (W : World) (x : Option Addr) (kc : Nat) (hm : MRow W ma m) :
    Calls Tryd.prog 14 #[.slice ma m.length mcap, .slice x k kc] W fun e w' => e = .returned (.tuple #[.slice none 0 0, .slice none 0 0, .int .i64 (ledCode m k)]) ∧ W = w' := by
  unfold ledCode at h ⊢
  split at h
  · rename_i h1
    rw [if_pos h1]
    exact ledger_large m.length k h1
  · rename_i h1
    rw [if_neg h1]
    split at h
    · rename_i h2
      rw [if_pos h2]
      exact ledger_arg k (by omega) (by omega) (by omega) hm h2
    · exact absurd rfl h

section
variable {w : World}
theorem book_no (n f : Int) (liars cap mcap pcap : Nat) (a ma pa : Option Addr) (l : List Say) (m : List Int) (pp : List (List Lg.Pay)) (c : Cfg) (s : St) (hs0 : (run c (Mo.start c) l).1 = s)
    (hp : ∀ w : World, SRow w a l → Calls Tryd.prog 9 #[.int .i64 n, .int .i64 f, .int .u32 liars, .slice a l.length cap] w (Met w c l)) (hs : SRow w a l) (hm : MRow w ma m) (hpp : PPRow w pa pp) (hg : Laid w)
    (h : bookCode c s m pp ≠ 0) :
    Calls Tryd.prog 6 #[.int .i64 n, .int .i64 f, .int .u32 liars, .slice a l.length cap, .slice ma m.length mcap, .slice pa pp.length pcap] w fun e w' => e = .returned (.tuple #[zeroBooked, .int .i64 (bookCode c s m pp)]) ∧ Below w.heap.size w w' := by
  by_cases hneg : lastTo c s s.blocks.length < 0
  · have e : bookCode c s m pp = ledCode m 0 := by unfold bookCode; rw [paid_neg pp hneg]; simp
    rw [e] at h ⊢
    exact book_neg_led n f liars cap mcap pcap a ma pa l m pp c s hs0 hp hs hm hpp hg (ledCode m 0) h (fun W x k hm => led_no ma m mcap 0 h W x k hm) hneg
  · have hpos : 0 ≤ lastTo c s s.blocks.length := by omega
    by_cases h60 : 60 < (gather pp (path s.blocks (lastTo c s s.blocks.length))).length
    · have e : bookCode c s m pp = 7 := by unfold bookCode; rw [paid_pos pp hpos, if_pos h60]
      rw [e]
      exact book_pos_full n f liars cap mcap pcap a ma pa l m pp c s hs0 hp hs hm hpp hg h60 hpos
    · have e : bookCode c s m pp = ledCode m (gather pp (path s.blocks (lastTo c s s.blocks.length))).length := by unfold bookCode; rw [paid_pos pp hpos, if_neg h60]
      rw [e] at h ⊢
      exact book_pos_led n f liars cap mcap pcap a ma pa l m pp c s hs0 hp hs hm hpp hg _ h (fun W x k hm => led_no ma m mcap _ h W x k hm) (by omega) hpos
theorem book_yes (n f : Int) (liars cap mcap pcap : Nat) (a ma pa : Option Addr) (l : List Say) (m : List Int) (pp : List (List Lg.Pay)) (c : Cfg) (s : St) (hs0 : (run c (Mo.start c) l).1 = s)
    (hp : ∀ w : World, SRow w a l → Calls Tryd.prog 9 #[.int .i64 n, .int .i64 f, .int .u32 liars, .slice a l.length cap] w (Met w c l)) (hs : SRow w a l) (hm : MRow w ma m) (hpp : PPRow w pa pp) (hg : Laid w)
    (h : bookCode c s m pp = 0) :
    Calls Tryd.prog 6 #[.int .i64 n, .int .i64 f, .int .u32 liars, .slice a l.length cap, .slice ma m.length mcap, .slice pa pp.length pcap] w (BookAt w c s l m (paid c s pp)) := by
  have h60 : (paid c s pp).length ≤ 60 := by
    rcases Nat.lt_or_ge 60 (paid c s pp).length with h1 | h1
    · unfold bookCode at h; rw [if_pos h1] at h; omega
    · exact h1
  have hl : ledCode m (paid c s pp).length = 0 := by unfold bookCode at h; rwa [if_neg (by omega)] at h
  have h3 : m.length ≠ 0 ∧ m.length ≤ 12 ∧ m.any bad = false := by
    unfold ledCode at hl
    split at hl
    · omega
    · split at hl
      · omega
      · rename_i h1 h2
        exact ⟨by omega, by omega, by simpa using h2⟩
  by_cases hneg : lastTo c s s.blocks.length < 0
  · rw [paid_neg pp hneg]
    exact book_neg_ok n f liars cap mcap pcap a ma pa l m pp c s hs0 hp hs hm hpp hg h3.1 h3.2.1 h3.2.2 hneg
  · have hpos : 0 ≤ lastTo c s s.blocks.length := by omega
    rw [paid_pos pp hpos] at h60 ⊢
    exact book_pos_ok n f liars cap mcap pcap a ma pa l m pp c s hs0 hp hs hm hpp hg h3.1 h3.2.1 h3.2.2 h60 hpos
end
theorem book_bounds {c : Cfg} {s : St} {m : List Int} {pp : List (List Lg.Pay)} (h : bookCode c s m pp = 0) : m.length ≤ 12 ∧ m.any bad = false ∧ (paid c s pp).length ≤ 60 := by
  unfold bookCode ledCode at h
  split at h
  · omega
  · split at h
    · omega
    · split at h
      · omega
      · rename_i h1 h2 h3
        exact ⟨by omega, by simpa using h3, by omega⟩
end Go.Proofs.YtkcekjpohpenkaaDoor
