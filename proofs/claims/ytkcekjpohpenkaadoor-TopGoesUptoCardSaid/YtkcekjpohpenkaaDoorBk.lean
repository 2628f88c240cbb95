import Derived.Test.YtkcekjpohpenkaaDoorRv
import Derived.Test.YtkcekjpohpenkaaDoorLplay
import Derived.Sort.QuietIn
/- book.last. -/
set_option linter.unusedVariables false
set_option linter.unusedSimpArgs false
set_option maxRecDepth 100000
namespace Go.Proofs.YtkcekjpohpenkaaDoor
open Go.RowKit Mo

/-- what Play does at whatever arguments -/
theorem play_split (n f : Int) (liars cap : Nat) (a : Option Addr) (l : List Say) (hl : liars < 4294967296) :
    (∃ code : Int, code ≠ 0 ∧ ∀ w : World, Calls Tryd.prog 9 #[.int .i64 n, .int .i64 f, .int .u32 liars, .slice a l.length cap] w fun e w' => e = .returned (.tuple #[zeroMeeting, .int .i64 code]) ∧ Below w.heap.size w w') ∨
    (∃ N F need : Nat, n = N ∧ f = F ∧ 1 ≤ N ∧ N ≤ 7 ∧ F ≤ (N - 1) / 3 ∧ need = N - F ∧ liars < 2 ^ N ∧ l.length ≤ 120 ∧
      ∀ (w : World) (a : Option Addr) (cap : Nat) (l : List Say), l.length ≤ 120 → SRow w a l → Calls Tryd.prog 9 #[.int .i64 n, .int .i64 f, .int .u32 liars, .slice a l.length cap] w (Met w { n := N, need := need, liars := liars } l)) := by
  by_cases h1 : n < 1 ∨ 7 < n ∨ 120 < l.length
  · exact .inl ⟨1, by omega, fun w => play_large n f liars l.length h1⟩
  · by_cases h2 : f < 0 ∨ (n - 1) / 3 < f
    · exact .inl ⟨3, by omega, fun w => play_form n f liars l.length (by omega) (by omega) (by omega) h2⟩
    · obtain ⟨N, rfl⟩ := Int.eq_ofNat_of_zero_le (show 0 ≤ n by omega)
      obtain ⟨F, rfl⟩ := Int.eq_ofNat_of_zero_le (show 0 ≤ f by omega)
      by_cases h3 : liars / 2 ^ N = 0
      · refine .inr ⟨N, F, N - F, rfl, rfl, by omega, by omega, by omega, rfl, ?_, by omega, fun w a cap l hl hs => play_ok N F (N - F) liars l (by omega) (by omega) hl (by omega) rfl h3 hs⟩
        rcases Nat.lt_or_ge liars (2 ^ N) with h | h
        · exact h
        · have := Nat.div_pos h (Nat.two_pow_pos N); omega
      · exact .inl ⟨2, by omega, fun w => play_arg N F liars l.length (by omega) (by omega) (by omega) (by omega) hl h3⟩

/-- a meeting, to be read -/
structure MeetAt (w : World) (c : Cfg) (s : St) (gb gc gd : Nat) : Prop where
  blocks : BRow w gb s.blocks
  cert : ∀ i : Nat, i < s.blocks.length → w.cell? ⟨gc, i, none⟩ = some (.bool (certified c s i))
  dec : ∀ i : Nat, i < s.blocks.length → w.cell? ⟨gd, i, none⟩ = some (.bool ((decided c s).getD i false))
  gc : gc < w.heap.size
  gd : gd < w.heap.size
theorem MeetAt.later {w w' : World} {c : Cfg} {s : St} {gb gc gd : Nat} (h : MeetAt w c s gb gc gd) (hb : Below w.heap.size w w') : MeetAt w' c s gb gc gd :=
  ⟨h.blocks.below h.blocks.gb hb, fun i hi => (hb.cell (p := ⟨gc, i, none⟩) h.gc).trans (h.cert i hi), fun i hi => (hb.cell (p := ⟨gd, i, none⟩) h.gd).trans (h.dec i hi), Nat.lt_of_lt_of_le h.gc hb.size, Nat.lt_of_lt_of_le h.gd hb.size⟩

theorem row_len {w : World} {B size n : Nat} {e : TypeId} {v : Value} {xs : List Value} (h : w.ownsRow B e size v n xs) : ∃ x c, v = .slice x n c := by
  rcases h.2 with ⟨rfl, rfl⟩ | ⟨g', cap, cur, rfl, _⟩
  · exact ⟨_, _, rfl⟩
  · exact ⟨_, _, rfl⟩

theorem decided_length (c : Cfg) (s : St) : (decided c s).length = s.blocks.length := by unfold decided; rw [dec_length]

theorem Met.parts {w : World} {c : Cfg} {l : List Say} {e : Ending} {w' : World} (h : Met w c l e w') :
    ∃ s cx cc0 gb cb gc cc gd, (run c (Mo.start c) l).1 = s ∧ WF c s ∧
      e = .returned (.tuple #[.agg #[.slice cx l.length cc0, .slice (some ⟨gb, 0, none⟩) s.blocks.length cb, .slice (some ⟨gc, 0, none⟩) s.blocks.length cc, .slice (some ⟨gd, 0, none⟩) s.blocks.length s.blocks.length], .int .i64 0]) ∧
      MeetAt w' c s gb gc gd ∧ w'.ownsRow (w.heap.size + 1) 35 1 (.slice cx l.length cc0) l.length (codeCells (run c (Mo.start c) l).2) ∧ Below w.heap.size w w' ∧ w.heap.size + 1 ≤ gb ∧ w.heap.size + 1 ≤ gc ∧ w.heap.size + 1 ≤ gd := by
  obtain ⟨s, cod, gb, cb, gc, cc, gd, hs, hw, rfl, h1, h2, h3, h4, h5, h6, h7⟩ := h
  obtain ⟨cx, cc0, rfl⟩ := row_len h1
  refine ⟨s, cx, cc0, gb, cb, gc, cc, gd, hs, hw, rfl, ⟨⟨fun i hi => h2.cell (pairCells_fst _ i hi), fun i hi => h2.cell (pairCells_snd _ i hi), h2.lt⟩, ?_, ?_, h3.lt, h4.lt⟩, h1, h7, h2.ge, h3.ge, h5⟩
  · intro i hi
    refine h3.cell ?_
    simp [boolL, certs, hi]
  · intro i hi
    rw [h4.cell i]
    have : i < (decided c s).length := by rw [decided_length]; exact hi
    simp [boolCells, this]


/-- the decided block with the greatest round, of the first k -/
def lastTo (c : Cfg) (s : St) : Nat → Int
  | 0 => -1
  | k + 1 => if (decided c s).getD k false = true ∧ (lastTo c s k < 0 ∨ rnd s (lastTo c s k).toNat ≤ rnd s k) then k else lastTo c s k
theorem lastTo_lt (c : Cfg) (s : St) : ∀ k, -1 ≤ lastTo c s k ∧ lastTo c s k < k
  | 0 => ⟨by simp [lastTo], by simp [lastTo]⟩
  | k + 1 => by
    have := lastTo_lt c s k
    unfold lastTo
    split <;> omega

set_option maxHeartbeats 2000000 in
theorem last_calls (w : World) (c : Cfg) (s : St) (hw : WF c s) (cx : Value) (gb cb gc cc gd : Nat) (h1 : cx.oneCell' = true) (hM : MeetAt w c s gb gc gd) :
    Calls Tryd.prog 12 #[.agg #[cx, .slice (some ⟨gb, 0, none⟩) s.blocks.length cb, .slice (some ⟨gc, 0, none⟩) s.blocks.length cc, .slice (some ⟨gd, 0, none⟩) s.blocks.length s.blocks.length]] w fun e w' => e = .returned (.int .i64 (lastTo c s s.blocks.length)) ∧ Below w.heap.size w w' := by
  have hb1 := Lib.hid ((Below.refl w.heap.size w).alloc (Nat.le_refl _) (.cells #[cx, .slice (some ⟨gb, 0, none⟩) s.blocks.length cb, .slice (some ⟨gc, 0, none⟩) s.blocks.length cc, .slice (some ⟨gd, 0, none⟩) s.blocks.length s.blocks.length] 55))
  have hk1 := Lib.hid (Blk.new w 55 #[cx, .slice (some ⟨gb, 0, none⟩) s.blocks.length cb, .slice (some ⟨gc, 0, none⟩) s.blocks.length cc, .slice (some ⟨gd, 0, none⟩) s.blocks.length s.blocks.length])
  have HM := Lib.hid hM
  have HW := Lib.hid hw
  have l40 := hw.len40
  clear hM hw
  go_enter Tryd.func12, Tryd.ntmps12
  go_wp2_with fail
  have hsz := hb1.out.size
  generalize hW1 : w.alloc (.cells #[cx, .slice (some ⟨gb, 0, none⟩) s.blocks.length cb, .slice (some ⟨gc, 0, none⟩) s.blocks.length cc, .slice (some ⟨gd, 0, none⟩) s.blocks.length s.blocks.length] 55) = W1 at hb1 hk1 hsz ⊢
  clear hW1
  go_loopw [3, 10] (fun b i wr => ∃ k : Nat, i = .int .i64 k ∧ k ≤ s.blocks.length ∧ b = .int .i64 (lastTo c s k) ∧ Below W1.heap.size W1 wr) (fun _ i _ => s.blocks.length - (intOf i).toNat)
  case atStart => exact ⟨0, rfl, by omega, rfl, Below.refl _ _⟩
  case round =>
    obtain ⟨k, rfl, hk, rfl, hbr⟩ := hrel
    have hbr' := Lib.hid hbr
    by_cases hkl : s.blocks.length = k
    · subst hkl
      clear hbr
      go_wp2_with fail
      go_ret
      exact ⟨rfl, hb1.out.trans (hbr'.out.mono hsz)⟩
    · have hk' : k < s.blocks.length := by omega
      have hK1 : Blk wr _ _ _ := hk1.out.below hbr hk1.out.lt
      have c1 := hK1.cell 1
      have lk := hK1.lt
      simp only [List.getElem?_toArray, List.getElem?_cons_zero, List.getElem?_cons_succ] at c1
      have hMr := (HM.out.later hb1.out).later hbr
      have dk := hMr.dec k hk'
      have rk := hMr.blocks.rnd k hk'
      change wr.cell? ⟨gb, k * 2 + 1, none⟩ = some (.int .i64 (Mo.rnd s k)) at rk
      have hgd := hMr.gd
      have hlt := lastTo_lt c s k
      have hnx : lastTo c s (k + 1) = if (decided c s).getD k false = true ∧ (lastTo c s k < 0 ∨ rnd s (lastTo c s k).toNat ≤ rnd s k) then (k : Int) else lastTo c s k := rfl
      have HN := Lib.hid hnx
      have HK := Lib.hid hkl
      have hcell : ∀ j : Nat, lastTo c s k = j → wr.cell? ⟨gb, j * 2 + 1, none⟩ = some (.int .i64 (Mo.rnd s j)) := fun j hj => hMr.blocks.rnd j (by omega)
      have HC := Lib.hid hcell
      clear hbr hK1 hMr hnx hkl hcell
      generalize hbv : (decided c s).getD k false = bv at dk HN
      clear hbv
      generalize hlv : lastTo c s k = lv at hlt HN HC ⊢
      clear hlv
      cases bv with
      | false =>
        go_wp2_with fail
        go_quiet (fail)
        go_wp2_with fail
        go_roundw
        case measure => simp [intOf]; omega
        exact ⟨k + 1, by simp, by omega, by rw [HN.out]; simp, below_drewN hbr'.out nq⟩
      | true =>
        by_cases hneg : lv < 0
        · have hneg' : decide (lv < 0) = true := by simpa using hneg
          go_wp2_with fail
          go_quiet (fail)
          go_wp2_with fail
          go_roundw
          case measure => simp [intOf]; omega
          exact ⟨k + 1, by simp, by omega, by rw [HN.out, if_pos ⟨by simp, .inl hneg⟩], below_drewN hbr'.out nq⟩
        · have hneg' : decide (lv < 0) = false := by simpa using hneg
          obtain ⟨j, rfl⟩ := Int.eq_ofNat_of_zero_le (Int.not_lt.1 hneg)
          have rj := HC.out j rfl
          have hj : j < s.blocks.length := by omega
          simp only [Int.toNat_natCast] at HN
          generalize Mo.rnd s k = r1 at rk HN
          generalize Mo.rnd s j = r2 at rj HN
          by_cases hge : r2 ≤ r1
          · have hge' : decide (r2 ≤ r1) = true := by simpa using hge
            go_wp2_with fail
            go_quiet (fail)
            go_wp2_with fail
            go_roundw
            case measure => simp [intOf]; omega
            exact ⟨k + 1, by simp, by omega, by rw [HN.out, if_pos ⟨by simp, .inr hge⟩], below_drewN hbr'.out nq⟩
          · have hge' : decide (r2 ≤ r1) = false := by simpa using hge
            go_wp2_with fail
            go_quiet (fail)
            go_wp2_with fail
            go_roundw
            case measure => simp [intOf]; omega
            exact ⟨k + 1, by simp, by omega, by rw [HN.out, if_neg (by intro h; rcases h.2 with h | h <;> omega)], below_drewN hbr'.out nq⟩
end Go.Proofs.YtkcekjpohpenkaaDoor
