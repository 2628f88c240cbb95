/-
  MootFront: for any processes, any liars and every script the law returns true, and its arguments read behind the call as they read before. No condition.
-/
import Derived.Test.YtkcekjpohpenkaaRows
import Derived.Test.YtkcekjpohpenkaaFrontWalk
import Derived.Test.YtkcekjpohpenkaaFrontErr
import Derived.Test.YtkcekjpohpenkaaSays
namespace Go.Proofs.Ytkcekjpohpenkaa.mootFront
open Go.ChangeShapes Go.WideShapes Go.ChangeAt Go.RowKit Mo
set_option linter.unusedVariables false

theorem own : ownKnob Try.prog.godebug = none := by kernel_rfl
theorem laidOut : laidOutB Try.prog = true := by kernel_rfl

theorem u32_nat {x : Int} (h : (Lit.int .u32 x).wf = true) : ∃ n : Nat, x = n ∧ n < 4294967296 := by
  have hx : 0 ≤ x ∧ x ≤ 4294967295 := by simpa [Lit.wf, IntKind.min, IntKind.max, IntKind.signed, IntKind.bits] using h
  obtain ⟨n, rfl⟩ := Int.eq_ofNat_of_zero_le hx.1
  exact ⟨n, rfl, by omega⟩

theorem says_len {H : Type} {enc : TypeId × Value → H} {w : World} {a : Option Addr} {len cap : Nat} {d : DataW H} {p : List MemPlace} (h : DataW.Trod enc Try.prog w 0 (fun _ => true) true 23 (.slice a len cap) d p) : len ≤ cap ∧ cap ≤ maxLen := by
  obtain ⟨fuel, hf⟩ := h
  rcases Go.Deep.open_slice Try.underlying23 hf with ⟨hcs, _⟩ | ⟨b, len', cap', m, n, D, Pl, hcs, hb, hl, hm, hmm, hx, hi⟩
  · simp [Value.cells] at hcs
    obtain ⟨rfl, rfl, rfl⟩ := hcs
    exact ⟨Nat.le_refl _, Nat.zero_le _⟩
  · simp [Value.cells] at hcs
    obtain ⟨rfl, rfl, rfl⟩ := hcs
    exact ⟨hl, hm⟩

theorem u8_nat {x : Int} (h : (Lit.int .u8 x).wf = true) : ∃ n : Nat, x = n ∧ n < 256 := by
  have hx : 0 ≤ x ∧ x ≤ 255 := by simpa [Lit.wf, IntKind.min, IntKind.max, IntKind.signed, IntKind.bits] using h
  obtain ⟨n, rfl⟩ := Int.eq_ofNat_of_zero_le hx.1
  exact ⟨n, rfl, by omega⟩

theorem divisor (len kk : Nat) (hk : kk < 256) (hlen : len ≤ 9223372036854775807) : ∃ (M : Int) (q : Nat), wrap64 ((len : Int) + 1) = M ∧ M ≠ 0 ∧ (kk : Int) % M = q ∧ q ≤ len := by
  by_cases h : len = 9223372036854775807
  · refine ⟨-9223372036854775808, kk, by unfold wrap64; omega, by decide, ?_, by omega⟩
    rw [Int.emod_neg]
    omega
  · refine ⟨len + 1, kk % (len + 1), ?_, by omega, by simp, ?_⟩
    · unfold wrap64
      omega
    · have := Nat.mod_lt kk (show 0 < len + 1 by omega)
      omega

theorem walk (n f : Int) (liars cap kk : Nat) (a : Option Addr) (l : List Say) (hl : liars < 4294967296) (hk : kk < 256) (hcap : l.length ≤ cap) (hmax : l.length ≤ 9223372036854775807) (w : World) (hs : SRow w a l) :
    Calls Try.prog 4 #[.int .i64 n, .int .i64 f, .int .u32 liars, .slice a l.length cap, .int .u8 kk] w (Yes w) := by
  rcases play_split n f liars cap a l hl with ⟨code, hc, hp⟩ | ⟨N, F, need, rfl, rfl, h1, h7, hF, hn, hll, h120, hp⟩
  · obtain ⟨M, q, hM, hM0, hq, hql⟩ := divisor l.length kk hk hmax
    exact front_err n f liars l.length cap kk q a l rfl code hc hl hk hs hcap M hM hM0 hq hql hp
  · exact front_ok N F need liars cap kk a l h1 h7 hn hll h120 hk hs hcap hp

set_option maxRecDepth 100000 in
theorem lifted (os : Os) (started : os.Started) (H : Type) (enc : TypeId × Value → H) :
    ReturnsInHanded {} Try.checked os 4 .any (Rows.mootFrontSpec.pre6 enc Try.prog Try.f4 Rows.mootFrontRow.domain false) (Rows.mootFrontSpec.post enc Try.prog Try.f4 false true false false) := by
  refine returnsInHanded_of_change (C := Try.checked) own started (by kernel_rfl) Try.func4
    (ChangeSpec.witness6 (enc := enc) (C := Try.checked) false ⟨#[], #[.int .i64 0, .int .i64 0, .int .u32 0, .slice none 0 0, .int .u8 0], []⟩ 8 (by kernel_rfl) (by kernel_rfl) (by kernel_rfl) (by kernel_rfl)) ?_
  intro W base args ds gs before hval0 hW hcnd _
  have hval : ∀ (j : Nat) t v, Try.f4.params[j]? = some t → args[j]? = some v → Value.okWide Try.prog W .any base t v := hval0
  have hW' := hW
  obtain ⟨p, q, hA0, hV, rfl, hfz, hnd⟩ := hW
  have hA : DataW.TrodAll enc Try.prog W 0 (fun _ => true) true Try.f4.params.toList args.toList ds p := hA0
  rw [Try.params4] at hA hval
  obtain ⟨v0, vs0, d0, ds0, p0, q0, hargs, rfl, rfl, h0, r0⟩ := trodAll_cons hA
  obtain ⟨v1, vs1, d1, ds1, p1, q1, rfl, rfl, rfl, h1, r1⟩ := trodAll_cons r0
  obtain ⟨v2, vs2, d2, ds2, p2, q2, rfl, rfl, rfl, h2, r2⟩ := trodAll_cons r1
  obtain ⟨v3, vs3, d3, ds3, p3, q3, rfl, rfl, rfl, h3, r3⟩ := trodAll_cons r2
  obtain ⟨v4, vs4, d4, ds4, p4, q4, rfl, rfl, rfl, h4, r4⟩ := trodAll_cons r3
  obtain ⟨rfl, rfl, rfl⟩ := trodAll_nil r4
  obtain rfl : args = #[v0, v1, v2, v3, v4] := by cases args; simp_all
  obtain ⟨rfl, rfl⟩ := trodVars_none hV
  obtain ⟨a0, rfl, rfl, rfl, w0⟩ := open_int Try.underlying3 (hval 0 3 v0 rfl rfl) h0
  obtain ⟨a1, rfl, rfl, rfl, w1⟩ := open_int Try.underlying3 (hval 1 3 v1 rfl rfl) h1
  obtain ⟨a2, rfl, rfl, rfl, w2⟩ := open_int Try.underlying22 (hval 2 22 v2 rfl rfl) h2
  obtain ⟨a3, len3, cap3, rfl⟩ := okWide_slice Try.underlying23 (hval 3 23 v3 rfl rfl)
  have k3 := h3
  have lt3 : ∀ x ∈ p3, x.block < W.heap.size := by obtain ⟨m, hm⟩ := k3; exact DataW.trod_lt m _ _ _ hm
  have hcl := says_len h3
  obtain ⟨l, rfl, hs⟩ := says_row h3 lt3
  obtain ⟨a4, rfl, rfl, rfl, w4⟩ := open_int Try.underlying5 (hval 4 5 v4 rfl rfl) h4
  obtain ⟨x4, rfl, hx4⟩ := u8_nat w4
  obtain ⟨x2, rfl, hx2⟩ := u32_nat w2
  clear hA0 hval0
  refine (walk a0 a1 x2 cap3 x4 a3 l hx2 hx4 hcl.1 (by have := hcl.2; unfold maxLen at this; omega) W hs).mono fun e W' ⟨he, bel⟩ => ?_
  subst he
  exact ⟨_, rfl, _, _, _, [], _, [], hW', trodAll_mk1 (shut_bool Try.underlying4 _), (trodAll_cons_mk (shut_int Try.underlying3 w0) (trodAll_cons_mk (shut_int Try.underlying3 w1) (trodAll_cons_mk (shut_int Try.underlying22 w2) (trodAll_cons_mk (Below.trod laidOut (by kernel_rfl) (of_decide_eq_true (by kernel_rfl)) k3 bel lt3) (trodAll_cons_mk (shut_int Try.underlying5 w4) trodAll_mk0))))), rfl, bel.frame _, fun h => by cases h⟩

theorem over : Rows.mootFrontRow.holds Try.pinned (OpenSpec.ofChange Rows.mootFrontSpec) :=
  OpenClaim.holds_of_wide 4 Try.f4 rfl rfl rfl rfl rfl rfl rfl ⟨rfl, rfl, rfl, rfl, rfl⟩ rfl rfl rfl rfl rfl (by kernel_rfl) Try.func4 (by kernel_rfl)
    (of_decide_eq_true (by kernel_rfl)) (by unfold Func.isWrapper; first | (rw [if_pos (by decide +kernel)]; kernel_rfl) | (rw [if_neg (by decide +kernel)]; exact ⟨rfl, rfl⟩))
    (fun os started H enc _ => lifted os started H enc)

/-- the given statement -/
theorem proved : Rows.MootFrontSaid := over
#print axioms proved
end Go.Proofs.Ytkcekjpohpenkaa.mootFront
