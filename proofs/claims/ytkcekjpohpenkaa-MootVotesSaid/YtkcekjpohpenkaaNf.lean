import Derived.Test.YtkcekjpohpenkaaNd
/- The assembly in plain Lean: what is certified, or decided, stays so. -/
set_option linter.unusedVariables false
set_option linter.unusedSimpArgs false
namespace Go.Proofs.Ytkcekjpohpenkaa
open Mo
section
variable {c : Cfg} {s s' : St}

theorem ups_grow (hw : WF c s) (hw' : WF c s') (hg : Grow s s') : ∀ b, b < s.blocks.length → upsFull s'.blocks b = upsFull s.blocks b := by
  intro b
  induction b using Nat.strongRecOn with
  | _ b ih =>
    intro hb
    have hb' : b < s'.blocks.length := Nat.lt_of_lt_of_le hb hg.len
    rw [upsFull_step (WF.chn hw).chain hb, upsFull_step (WF.chn hw').chain hb', hg.blk b hb]
    by_cases h0 : b = 0
    · subst h0
      rw [hw.first, upsFull_neg (by simp), upsFull_neg (by simp)]
    · obtain ⟨q1, q2, q3⟩ := hw.par b (by omega) hb
      obtain ⟨p, hp⟩ := Int.eq_ofNat_of_zero_le q1
      have hp' : (s.blocks.getD b (0, 0)).1 = (p : Int) := hp
      rw [hp', ih p (by omega) (by omega)]

theorem decided_grow (hw : WF c s) (hw' : WF c s') (hg : Grow s s') {p : Nat} (h : (decided c s).getD p false = true) : (decided c s').getD p false = true := by
  obtain ⟨a, b, h0, h1, h2, h3, h4, h5, h6, h7⟩ := (decided_iff hw p).1 h
  have hb : b < s.blocks.length := by omega
  refine (decided_iff hw' p).2 ⟨a, b, h0, Nat.lt_of_lt_of_le h1 hg.len, h2, by rw [hg.par h1]; exact h3, hg.cert h1 h4, hg.cert hb h5, by rw [hg.rnd h1, hg.rnd hb]; exact h6, ?_⟩
  rw [ups_grow hw hw' hg b hb]
  exact h7

theorem run_take_grow (h1 : 1 ≤ c.n) (h7 : c.n ≤ 7) (hn : c.need ≤ c.n) (hl : c.liars < 2 ^ c.n) (l : List Say) (k : Nat) : Grow (run c (Mo.start c) (l.take k)).1 (run c (Mo.start c) l).1 := by
  have hw := wf_run (WF.start h1 h7 hn hl) (l.take k)
  have e := run_append (c := c) (s := Mo.start c) (l.take k) (l.drop k)
  rw [List.take_append_drop] at e
  rw [e]
  exact grow_run hw (l.drop k)
end

theorem SRow.take {w : World} {a : Option Addr} {l : List Say} (h : SRow w a l) (k : Nat) : SRow w a (l.take k) := by
  refine ⟨fun i hi => ?_⟩
  have hi' : i < l.length := by rw [List.length_take] at hi; omega
  obtain ⟨b, hb, hlt, hx⟩ := h.row i hi'
  refine ⟨b, hb, hlt, fun x hxl => hx x ?_⟩
  rw [List.getElem?_take] at hxl
  split at hxl
  · exact hxl
  · cases hxl
end Go.Proofs.Ytkcekjpohpenkaa
