import Derived.Test.YtkcekjpohpenkaaNd
set_option linter.unusedVariables false
set_option linter.unusedSimpArgs false
namespace Go.Proofs.Ytkcekjpohpenkaa
open Go.RowKit Mo

/-- what Play does at whatever arguments -/
theorem play_split (n f : Int) (liars cap : Nat) (a : Option Addr) (l : List Say) (hl : liars < 4294967296) :
    (∃ code : Int, code ≠ 0 ∧ ∀ w : World, Calls Try.prog 8 #[.int .i64 n, .int .i64 f, .int .u32 liars, .slice a l.length cap] w fun e w' => e = .returned (.tuple #[zeroMeeting, .int .i64 code]) ∧ Below w.heap.size w w') ∨
    (∃ N F need : Nat, n = N ∧ f = F ∧ 1 ≤ N ∧ N ≤ 7 ∧ F ≤ (N - 1) / 3 ∧ need = N - F ∧ liars < 2 ^ N ∧ l.length ≤ 120 ∧
      ∀ (w : World) (a : Option Addr) (cap : Nat) (l : List Say), l.length ≤ 120 → SRow w a l → Calls Try.prog 8 #[.int .i64 n, .int .i64 f, .int .u32 liars, .slice a l.length cap] w (Met w { n := N, need := need, liars := liars } l)) := by
  by_cases h1 : n < 1 ∨ 7 < n ∨ 120 < l.length
  · exact .inl ⟨1, by omega, fun w => play_large n f liars l.length h1⟩
  · by_cases h2 : f < 0 ∨ (n - 1) / 3 < f
    · exact .inl ⟨3, by omega, fun w => play_form n f liars l.length (by omega) (by omega) (by omega) h2⟩
    · obtain ⟨N, rfl⟩ := Int.eq_ofNat_of_zero_le (show 0 ≤ n by omega)
      obtain ⟨F, rfl⟩ := Int.eq_ofNat_of_zero_le (show 0 ≤ f by omega)
      by_cases h3 : liars / 2 ^ N = 0
      · refine .inr ⟨N, F, N - F, rfl, rfl, by omega, by omega, by omega, rfl, ?_, by omega, fun w a cap l hl hs => play_ok N F (N - F) liars l (by omega) (by omega) hl (by omega) rfl h3 hs⟩
        rcases Nat.lt_or_ge liars (2 ^ N) with h | h
        · exact h
        · have := Nat.div_pos h (Nat.two_pow_pos N); omega
      · exact .inl ⟨2, by omega, fun w => play_arg N F liars l.length (by omega) (by omega) (by omega) (by omega) hl h3⟩

/-- a meeting, to be read -/
structure MeetAt (w : World) (c : Cfg) (s : St) (gb gc gd : Nat) : Prop where
  blocks : BRow w gb s.blocks
  cert : ∀ i : Nat, i < s.blocks.length → w.cell? ⟨gc, i, none⟩ = some (.bool (certified c s i))
  dec : ∀ i : Nat, i < s.blocks.length → w.cell? ⟨gd, i, none⟩ = some (.bool ((decided c s).getD i false))
  gc : gc < w.heap.size
  gd : gd < w.heap.size
theorem MeetAt.later {w w' : World} {c : Cfg} {s : St} {gb gc gd : Nat} (h : MeetAt w c s gb gc gd) (hb : Below w.heap.size w w') : MeetAt w' c s gb gc gd :=
  ⟨h.blocks.below h.blocks.gb hb, fun i hi => (hb.cell (p := ⟨gc, i, none⟩) h.gc).trans (h.cert i hi), fun i hi => (hb.cell (p := ⟨gd, i, none⟩) h.gd).trans (h.dec i hi), Nat.lt_of_lt_of_le h.gc hb.size, Nat.lt_of_lt_of_le h.gd hb.size⟩

theorem row_len {w : World} {B size n : Nat} {e : TypeId} {v : Value} {xs : List Value} (h : w.ownsRow B e size v n xs) : ∃ x c, v = .slice x n c := by
  rcases h.2 with ⟨rfl, rfl⟩ | ⟨g', cap, cur, rfl, _⟩
  · exact ⟨_, _, rfl⟩
  · exact ⟨_, _, rfl⟩

theorem decided_length (c : Cfg) (s : St) : (decided c s).length = s.blocks.length := by unfold decided; rw [dec_length]

theorem Met.parts {w : World} {c : Cfg} {l : List Say} {e : Ending} {w' : World} (h : Met w c l e w') :
    ∃ s cx cc0 gb cb gc cc gd, (run c (Mo.start c) l).1 = s ∧ WF c s ∧
      e = .returned (.tuple #[.agg #[.slice cx l.length cc0, .slice (some ⟨gb, 0, none⟩) s.blocks.length cb, .slice (some ⟨gc, 0, none⟩) s.blocks.length cc, .slice (some ⟨gd, 0, none⟩) s.blocks.length s.blocks.length], .int .i64 0]) ∧
      MeetAt w' c s gb gc gd ∧ w'.ownsRow (w.heap.size + 1) 29 1 (.slice cx l.length cc0) l.length (codeCells (run c (Mo.start c) l).2) ∧ Below w.heap.size w w' := by
  obtain ⟨s, cod, gb, cb, gc, cc, gd, hs, hw, rfl, h1, h2, h3, h4, h5, h6, h7⟩ := h
  obtain ⟨cx, cc0, rfl⟩ := row_len h1
  refine ⟨s, cx, cc0, gb, cb, gc, cc, gd, hs, hw, rfl, ⟨⟨fun i hi => h2.cell (pairCells_fst _ i hi), fun i hi => h2.cell (pairCells_snd _ i hi), h2.lt⟩, ?_, ?_, h3.lt, h4.lt⟩, h1, h7⟩
  · intro i hi
    refine h3.cell ?_
    simp [boolL, certs, hi]
  · intro i hi
    rw [h4.cell i]
    have : i < (decided c s).length := by rw [decided_length]; exact hi
    simp [boolCells, this]

theorem position_path {w5 : World} {bl : List (Int × Int)} (hc : Chn bl) {i : Nat} (hi : i < bl.length) {B g c : Nat} (h : Own w5 B 3 1 g c (path bl i).length (intL (path bl i))) (j : Nat) :
    Calls Try.prog 11 #[.slice (some ⟨g, 0, none⟩) (path bl i).length c, .int .i64 j] w5 fun e w' => e = .returned (.int .i64 (pos (path bl i) j)) ∧ w5 = w' := by
  have hpl := path_length hc.chain i hi
  have l40 := hc.len40
  have hle : (path bl i).length ≤ 1000 := by omega
  clear hpl hc hi l40
  revert h hle
  generalize path bl i = p
  intro h hle
  have hr : ∀ t : Nat, t < p.length → w5.cell? ⟨g, t, none⟩ = some (.int .i64 ((p.getD t 0 : Nat) : Int)) := fun t ht => Own.cell h (by simp [intL, ht])
  exact position_calls w5 g c p.length j p rfl hle hr
end Go.Proofs.Ytkcekjpohpenkaa
