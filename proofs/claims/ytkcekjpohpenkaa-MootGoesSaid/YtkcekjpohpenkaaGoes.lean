/-
  MootGoes: for any processes, any liars and every script the law returns true, and its arguments read behind the call as they read before. No condition.
-/
import Derived.Test.YtkcekjpohpenkaaRows
import Derived.Test.YtkcekjpohpenkaaGoesWalk
import Derived.Test.YtkcekjpohpenkaaSays
namespace Go.Proofs.Ytkcekjpohpenkaa.mootGoes
open Go.ChangeShapes Go.WideShapes Go.ChangeAt Go.RowKit Mo
set_option linter.unusedVariables false

theorem own : ownKnob Try.prog.godebug = none := by kernel_rfl
theorem laidOut : laidOutB Try.prog = true := by kernel_rfl

theorem u32_nat {x : Int} (h : (Lit.int .u32 x).wf = true) : ∃ n : Nat, x = n ∧ n < 4294967296 := by
  have hx : 0 ≤ x ∧ x ≤ 4294967295 := by simpa [Lit.wf, IntKind.min, IntKind.max, IntKind.signed, IntKind.bits] using h
  obtain ⟨n, rfl⟩ := Int.eq_ofNat_of_zero_le hx.1
  exact ⟨n, rfl, by omega⟩

theorem walk (n f : Int) (liars cap : Nat) (a : Option Addr) (l : List Say) (hl : liars < 4294967296) (w : World) (hs : SRow w a l) :
    Calls Try.prog 5 #[.int .i64 n, .int .i64 f, .int .u32 liars, .slice a l.length cap] w (Yes w) := by
  rcases play_split n f liars cap a l hl with ⟨code, hc, hp⟩ | ⟨N, F, need, rfl, rfl, h1, h7, hF, hn, hll, h120, hp⟩
  · exact goes_err n f liars cap a l code hc hp
  · obtain ⟨s, hs0⟩ : ∃ s, (run { n := N, need := need, liars := liars } (Mo.start { n := N, need := need, liars := liars }) l).1 = s := ⟨_, rfl⟩
    by_cases hout : ¬ (pop liars : Int) ≤ F ∨ 40 < s.blocks.length + 2 ∨ 120 < l.length + 4 * N + 2
    · exact goes_out N F need liars cap a l s h1 h7 hF hn hll h120 hs hs0 (hp w a cap l h120 hs) hout
    · exact goes_ok N F need liars cap a l s h1 h7 hF hn hll (by omega) hs hs0 hp (by omega) (by omega)

set_option maxRecDepth 100000 in
theorem lifted (os : Os) (started : os.Started) (H : Type) (enc : TypeId × Value → H) :
    ReturnsInHanded {} Try.checked os 5 .any (Rows.mootGoesSpec.pre6 enc Try.prog Try.f5 Rows.mootGoesRow.domain false) (Rows.mootGoesSpec.post enc Try.prog Try.f5 false true false false) := by
  refine returnsInHanded_of_change (C := Try.checked) own started (by kernel_rfl) Try.func5
    (ChangeSpec.witness6 (enc := enc) (C := Try.checked) false ⟨#[], #[.int .i64 0, .int .i64 0, .int .u32 0, .slice none 0 0], []⟩ 8 (by kernel_rfl) (by kernel_rfl) (by kernel_rfl) (by kernel_rfl)) ?_
  intro W base args ds gs before hval0 hW hcnd _
  have hval : ∀ (j : Nat) t v, Try.f5.params[j]? = some t → args[j]? = some v → Value.okWide Try.prog W .any base t v := hval0
  have hW' := hW
  obtain ⟨p, q, hA0, hV, rfl, hfz, hnd⟩ := hW
  have hA : DataW.TrodAll enc Try.prog W 0 (fun _ => true) true Try.f5.params.toList args.toList ds p := hA0
  rw [Try.params5] at hA hval
  obtain ⟨v0, vs0, d0, ds0, p0, q0, hargs, rfl, rfl, h0, r0⟩ := trodAll_cons hA
  obtain ⟨v1, vs1, d1, ds1, p1, q1, rfl, rfl, rfl, h1, r1⟩ := trodAll_cons r0
  obtain ⟨v2, vs2, d2, ds2, p2, q2, rfl, rfl, rfl, h2, r2⟩ := trodAll_cons r1
  obtain ⟨v3, vs3, d3, ds3, p3, q3, rfl, rfl, rfl, h3, r3⟩ := trodAll_cons r2
  obtain ⟨rfl, rfl, rfl⟩ := trodAll_nil r3
  obtain rfl : args = #[v0, v1, v2, v3] := by cases args; simp_all
  obtain ⟨rfl, rfl⟩ := trodVars_none hV
  obtain ⟨a0, rfl, rfl, rfl, w0⟩ := open_int Try.underlying3 (hval 0 3 v0 rfl rfl) h0
  obtain ⟨a1, rfl, rfl, rfl, w1⟩ := open_int Try.underlying3 (hval 1 3 v1 rfl rfl) h1
  obtain ⟨a2, rfl, rfl, rfl, w2⟩ := open_int Try.underlying22 (hval 2 22 v2 rfl rfl) h2
  obtain ⟨a3, len3, cap3, rfl⟩ := okWide_slice Try.underlying23 (hval 3 23 v3 rfl rfl)
  have k3 := h3
  have lt3 : ∀ x ∈ p3, x.block < W.heap.size := by obtain ⟨m, hm⟩ := k3; exact DataW.trod_lt m _ _ _ hm
  obtain ⟨l, rfl, hs⟩ := says_row h3 lt3
  obtain ⟨x2, rfl, hx2⟩ := u32_nat w2
  clear hA0 hval0
  refine (walk a0 a1 x2 cap3 a3 l hx2 W hs).mono fun e W' ⟨he, bel⟩ => ?_
  subst he
  exact ⟨_, rfl, _, _, _, [], _, [], hW', trodAll_mk1 (shut_bool Try.underlying4 _), (trodAll_cons_mk (shut_int Try.underlying3 w0) (trodAll_cons_mk (shut_int Try.underlying3 w1) (trodAll_cons_mk (shut_int Try.underlying22 w2) (trodAll_cons_mk (Below.trod laidOut (by kernel_rfl) (of_decide_eq_true (by kernel_rfl)) k3 bel lt3) trodAll_mk0)))), rfl, bel.frame _, fun h => by cases h⟩

theorem over : Rows.mootGoesRow.holds Try.pinned (OpenSpec.ofChange Rows.mootGoesSpec) :=
  OpenClaim.holds_of_wide 5 Try.f5 rfl rfl rfl rfl rfl rfl rfl ⟨rfl, rfl, rfl, rfl, rfl⟩ rfl rfl rfl rfl rfl (by kernel_rfl) Try.func5 (by kernel_rfl)
    (of_decide_eq_true (by kernel_rfl)) (by unfold Func.isWrapper; first | (rw [if_pos (by decide +kernel)]; kernel_rfl) | (rw [if_neg (by decide +kernel)]; exact ⟨rfl, rfl⟩))
    (fun os started H enc _ => lifted os started H enc)

/-- the given statement -/
theorem proved : Rows.MootGoesSaid := over
#print axioms proved
end Go.Proofs.Ytkcekjpohpenkaa.mootGoes
