import Derived.Test.YtkcekjpohpenkaaSafeWalk
import Derived.Test.YtkcekjpohpenkaaNf
/- MootFront's walk where the whole script is none that may be. -/
set_option linter.unusedVariables false
set_option linter.unusedSimpArgs false
namespace Go.Proofs.Ytkcekjpohpenkaa
open Go.RowKit Mo

/-- whatever Play hands back -/
def Gave (w : World) (e : Ending) (w' : World) : Prop :=
  ∃ x0 x1 x2 x3 n0 n1 n2 n3 k0 k1 k2 k3 code, e = .returned (.tuple #[.agg #[.slice x0 n0 k0, .slice x1 n1 k1, .slice x2 n2 k2, .slice x3 n3 k3], .int .i64 code]) ∧ Below w.heap.size w w'

theorem play_gave (n f : Int) (liars cap : Nat) (a : Option Addr) (l : List Say) (hl : liars < 4294967296) (w : World) (hs : SRow w a l) :
    Calls Try.prog 8 #[.int .i64 n, .int .i64 f, .int .u32 liars, .slice a l.length cap] w (Gave w) := by
  rcases play_split n f liars cap a l hl with ⟨code, hc, hp⟩ | ⟨N, F, need, rfl, rfl, h1, h7, hF, hn, hll, h120, hp⟩
  · refine (hp w).mono ?_
    rintro e w' ⟨rfl, hb⟩
    exact ⟨_, _, _, _, _, _, _, _, _, _, _, _, _, rfl, hb⟩
  · refine (hp w a cap l h120 hs).mono ?_
    intro e w' hm
    obtain ⟨s, cx, cc0, gb, cb, gc, cc, gd, hst, hw, rfl, hM, hcod, hb1⟩ := hm.parts
    exact ⟨_, _, _, _, _, _, _, _, _, _, _, _, _, rfl, hb1⟩

section
variable {w : World}
set_option maxHeartbeats 1000000 in
set_option maxRecDepth 100000 in
theorem front_err (n f : Int) (liars len cap kk q : Nat) (a : Option Addr) (l : List Say) (hlen : l.length = len) (code : Int) (hcode : code ≠ 0) (hl32 : liars < 4294967296) (hk : kk < 256) (hs : SRow w a l) (hcap : len ≤ cap) (M : Int) (hM : wrap64 ((len : Int) + 1) = M) (hM0 : M ≠ 0)
    (hq : (kk : Int) % M = q) (hql : q ≤ len)
    (hp : ∀ w : World, Calls Try.prog 8 #[.int .i64 n, .int .i64 f, .int .u32 liars, .slice a l.length cap] w fun e w' => e = .returned (.tuple #[zeroMeeting, .int .i64 code]) ∧ Below w.heap.size w w') :
    Calls Try.prog 4 #[.int .i64 n, .int .i64 f, .int .u32 liars, .slice a len cap, .int .u8 kk] w (Yes w) := by
  rw [hlen] at hp
  have hP := Lib.hid (hp w)
  have HS := Lib.hid hs
  have hc1 : (code != 0) = true := by simpa using hcode
  have hqc : (q : Int) ≤ cap := by omega
  have hlt : (l.take q).length = q := by rw [List.length_take]; omega
  have hP2 := Lib.hid (fun w (hs : SRow w a (l.take q)) => play_gave n f liars cap a (l.take q) hl32 w hs)
  rw [hlt] at hP2
  clear hp hs hlen hlt
  unfold zeroMeeting at hP
  go_enter Try.func4, Try.ntmps4
  go_wp2_with (first
    | (go_at_call 8
       refine (hP.out).mono ?_
       rintro e w1 ⟨rfl, hb1⟩
       have hB1 := Lib.hid (hb1.alloc hb1.size (.cells #[.slice none 0 0, .slice none 0 0, .slice none 0 0, .slice none 0 0] 28))
       clear hb1 hP)
    | (go_at_call 8
       refine (hP2.out _ (SRow.take (HS.out.later hB1.out) q)).mono ?_
       intro e w2 hg
       obtain ⟨x0, x1, x2, x3, n0, n1, n2, n3, k0, k1, k2, k3, code2, rfl, hb2⟩ := hg
       have hB2 := Lib.hid hb2
       clear hb2 hP2))
  go_ret
  exact ⟨rfl, hB1.out.trans ((hB2.out.alloc hB2.out.size _).mono hB1.out.size)⟩
end
end Go.Proofs.Ytkcekjpohpenkaa
