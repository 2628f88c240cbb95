/-
  TopGoes: for any processes, any liars, every script, any money, any pays and any more the law returns true, and its arguments read behind the call as they read before. The arguments and the variable together of bulk at most 1048576.
-/
import Derived.Test.YtkcekjpohpenkaaDoorCards
import Derived.Test.YtkcekjpohpenkaaDoorTie
import Derived.Test.YtkcekjpohpenkaaDoorTgWalk
import Derived.Test.YtkcekjpohpenkaaDoorOpen
import Derived.Deep.DeepHandedRow
import Derived.LaidLaws
import Derived.LaidHandle
import Derived.Stop.Joined
namespace Go.Proofs.YtkcekjpohpenkaaDoor.topGoes
open Go.ChangeShapes Go.WideShapes Go.ChangeAt Go.RowKit Mo
set_option linter.unusedVariables false
set_option maxRecDepth 100000

theorem own : ownKnob Tryd.prog.godebug = none := by kernel_rfl
theorem laidOut : laidOutB Tryd.prog = true := by kernel_rfl
theorem et : Tryd.prog.globalNamed "errors.errorType" = some 0 := by kernel_rfl
theorem rt : (Tryd.prog.cutTypes.find? (·.1 == "internal/reflectlite.rtype")).map (·.2) = some 121 := by kernel_rfl
theorem oneRow : ((List.range 162).filter fun t => Tryd.prog.rowNamed t [101, 114, 114, 111, 114]) = [87] := by kernel_rfl
theorem tsize : Tryd.prog.types.size = 162 := by kernel_rfl

/-- what the condition gives a walk: the variable's one cell -/
theorem handle {W : World} (h : laidMetH Tryd.prog Rows.topGoesUptoRow.laid W) : Laid W := by
  have h' : laidMet Tryd.prog [] W ∧ handlesMet Tryd.prog Rows.topGoesUptoRow.laid W := h
  obtain ⟨name, u, ty, e1, e2, e3, e4, e5⟩ := h'.2 _ (List.mem_singleton.2 rfl)
  have en : name = [101, 114, 114, 111, 114] := (Option.some.inj e1).symm
  subst en
  obtain rfl := Option.some.inj (rt.symm.trans e2)
  have hm : ty ∈ (List.range 162).filter fun t => Tryd.prog.rowNamed t [101, 114, 114, 111, 114] := List.mem_filter.2 ⟨List.mem_range.2 (by rw [← tsize]; exact e3), e4⟩
  rw [oneRow] at hm
  obtain rfl := List.mem_singleton.1 hm
  have hh : typeHandle Tryd.prog 87 = .pointer (some ⟨1, 87, none⟩) := by kernel_rfl
  rw [hh] at e5
  have := World.var?_cell et e5 0
  unfold Laid errCell
  simpa using this

theorem u32_nat {x : Int} (h : (Lit.int .u32 x).wf = true) : ∃ n : Nat, x = n ∧ n < 4294967296 := by
  have hx : 0 ≤ x ∧ x ≤ 4294967295 := by simpa [Lit.wf, IntKind.min, IntKind.max, IntKind.signed, IntKind.bits] using h
  obtain ⟨n, rfl⟩ := Int.eq_ofNat_of_zero_le hx.1
  exact ⟨n, rfl, by omega⟩

theorem led_more2 {m : List Int} {k : Nat} (h : ledCode m k = 0) : ledCode m 0 = 0 := by
  unfold ledCode at h ⊢
  split at h
  · omega
  · rename_i h1
    rw [if_neg (by omega)]
    exact h
theorem book_more2 {c : Cfg} {s : St} {m : List Int} {pp : List (List Lg.Pay)} (h : bookCode c s m pp = 0) : ledCode m 0 = 0 := by
  unfold bookCode at h
  split at h
  · omega
  · exact led_more2 h
theorem walk (n f : Int) (liars cap mcap pcap qcap : Nat) (a ma pa qa : Option Addr) (l : List Say) (m : List Int) (pp : List (List Lg.Pay)) (mr : List Lg.Pay) (hl : liars < 4294967296) (w : World) (hs : SRow w a l) (hm : MRow w ma m) (hpp : PPRow w pa pp) (hmr : PRow w qa mr) (hml : mr.length ≤ 1048576) (hg : Laid w) :
    Calls Tryd.prog 4 #[.int .i64 n, .int .i64 f, .int .u32 liars, .slice a l.length cap, .slice ma m.length mcap, .slice pa pp.length pcap, .slice qa mr.length qcap] w (Yes w) := by
  rcases play_split n f liars cap a l hl with ⟨code, hc, hp⟩ | ⟨N, F, need, rfl, rfl, h1, h7, hF, hn, hll, h120, hp⟩
  · exact tg_err n f liars _ _ _ _ code hc (book_err n f liars _ _ _ code hc hp)
  · obtain ⟨s, hs0⟩ : ∃ s, (run { n := N, need := need, liars := liars } (Mo.start { n := N, need := need, liars := liars }) l).1 = s := ⟨_, rfl⟩
    have hp' := fun (w : World) (hs : SRow w a l) => hp w a cap l h120 hs
    by_cases hb : bookCode { n := N, need := need, liars := liars } s m pp = 0
    · have hy := book_yes (w := w) N F liars cap mcap pcap a ma pa l m pp _ s hs0 hp' hs hm hpp hg hb
      obtain ⟨hb1, hb2, hb3⟩ := book_bounds hb
      have hI := inv_run (inv_start (c := { n := N, need := need, liars := liars }) h1 h7 (by simp only; omega) hll) l
      rw [hs0] at hI
      by_cases hfew : (pop liars : Int) ≤ F
      · by_cases hq : 40 < s.blocks.length + 2
        · exact tg_out2 N F liars cap mcap pcap qcap a ma pa qa l m pp mr { n := N, need := need, liars := liars } s rfl rfl hI h1 h7 hll h120 hb1 hy hfew hq
        · by_cases hr : 120 < l.length + 4 * N + 2
          · exact tg_out3 N F liars cap mcap pcap qcap a ma pa qa l m pp mr { n := N, need := need, liars := liars } s rfl rfl hI h1 h7 hll h120 hb1 hy hfew (by omega) hr
          · exact tg_ok N F liars cap mcap pcap qcap a ma pa qa l m pp mr { n := N, need := need, liars := liars } s rfl rfl hI h1 h7 hll h120 hb1 hy ⟨h1, h7, hF, hn, by simp only; omega⟩ hs0 (by omega) (by omega) (book_more2 hb) hp hs hm hpp hmr hml hg (by simp only; omega)
      · exact tg_out1 N F liars cap mcap pcap qcap a ma pa qa l m pp mr { n := N, need := need, liars := liars } s rfl rfl hI h1 h7 hll h120 hb1 hy hfew
    · exact tg_err N F liars _ _ _ _ _ hb (book_no (w := w) N F liars cap mcap pcap a ma pa l m pp _ s hs0 hp' hs hm hpp hg hb)

theorem contract (H : Type) (enc : TypeId × Value → H) (W : World) (base : Nat) (args : Array Value) (ds gs : List (DataW H)) (before : List MemPlace)
    (hval : ∀ (j : Nat) t v, Tryd.f4.params[j]? = some t → args[j]? = some v → Value.okWide Tryd.prog W .any base t v)
    (hW : DataW.Whole enc Tryd.prog Tryd.f4.params.toList Rows.topGoesSpec.vars false W args.toList ds gs before) (hcond : ∀ k, (Rows.OpenSpec.upto Rows.topGoesSpec).cond = some k → k H (ds ++ gs) = true) (hL : laidMetH Tryd.prog Rows.topGoesUptoRow.laid W) :
    Calls Tryd.prog 4 args W fun e W' => ∃ v, e = .returned v ∧ Rows.topGoesSpec.post enc Tryd.prog Tryd.f4 false true false false W args v W' := by
  have hW' := hW
  obtain ⟨p, q, hA0, hV, rfl, hfz, hnd⟩ := hW
  have hA : DataW.TrodAll enc Tryd.prog W 0 (fun _ => true) true Tryd.f4.params.toList args.toList ds p := hA0
  rw [Tryd.params4] at hA hval
  obtain ⟨v0, vs0, d0, ds0, p0, q0, hargs, rfl, rfl, h0, r0⟩ := trodAll_cons hA
  obtain ⟨v1, vs1, d1, ds1, p1, q1, rfl, rfl, rfl, h1, r1⟩ := trodAll_cons r0
  obtain ⟨v2, vs2, d2, ds2, p2, q2, rfl, rfl, rfl, h2, r2⟩ := trodAll_cons r1
  obtain ⟨v3, vs3, d3, ds3, p3, q3, rfl, rfl, rfl, h3, r3⟩ := trodAll_cons r2
  obtain ⟨v4, vs4, d4, ds4, p4, q4, rfl, rfl, rfl, h4, r4⟩ := trodAll_cons r3
  obtain ⟨v5, vs5, d5, ds5, p5, q5, rfl, rfl, rfl, h5, r5⟩ := trodAll_cons r4
  obtain ⟨v6, vs6, d6, ds6, p6, q6, rfl, rfl, rfl, h6, r6⟩ := trodAll_cons r5
  obtain ⟨rfl, rfl, rfl⟩ := trodAll_nil r6
  obtain rfl : args = #[v0, v1, v2, v3, v4, v5, v6] := by cases args; simp_all
  obtain ⟨rfl, rfl⟩ := trodVars_none hV
  obtain ⟨a0, rfl, rfl, rfl, w0⟩ := open_int Tryd.underlying3 (hval 0 3 v0 rfl rfl) h0
  obtain ⟨a1, rfl, rfl, rfl, w1⟩ := open_int Tryd.underlying3 (hval 1 3 v1 rfl rfl) h1
  obtain ⟨a2, rfl, rfl, rfl, w2⟩ := open_int Tryd.underlying22 (hval 2 22 v2 rfl rfl) h2
  obtain ⟨a3, len3, cap3, rfl⟩ := okWide_slice Tryd.underlying23 (hval 3 23 v3 rfl rfl)
  obtain ⟨a4, len4, cap4, rfl⟩ := okWide_slice Tryd.underlying24 (hval 4 24 v4 rfl rfl)
  obtain ⟨a5, len5, cap5, rfl⟩ := okWide_slice Tryd.underlying25 (hval 5 25 v5 rfl rfl)
  obtain ⟨a6, len6, cap6, rfl⟩ := okWide_slice Tryd.underlying31 (hval 6 31 v6 rfl rfl)
  have k3 := h3
  have lt3 : ∀ x ∈ p3, x.block < W.heap.size := by obtain ⟨m, hm⟩ := k3; exact DataW.trod_lt m _ _ _ hm
  have k4 := h4
  have lt4 : ∀ x ∈ p4, x.block < W.heap.size := by obtain ⟨m, hm⟩ := k4; exact DataW.trod_lt m _ _ _ hm
  have k5 := h5
  have lt5 : ∀ x ∈ p5, x.block < W.heap.size := by obtain ⟨m, hm⟩ := k5; exact DataW.trod_lt m _ _ _ hm
  have k6 := h6
  have lt6 : ∀ x ∈ p6, x.block < W.heap.size := by obtain ⟨m, hm⟩ := k6; exact DataW.trod_lt m _ _ _ hm
  have hk : Rows.uptoBulkAll _ ≤ 1048576 := of_decide_eq_true (hcond _ rfl)
  have hk5 : Rows.uptoBulk d5 ≤ 1048576 := Nat.le_trans (bulk_part (by simp)) hk
  obtain ⟨l, rfl, hs⟩ := says_row h3 lt3
  obtain ⟨m, rfl, hm⟩ := money_row h4
  obtain ⟨pp, rfl, hpp⟩ := pays2_row h5 hk5
  have hk6 : Rows.uptoBulk d6 ≤ 1048576 := Nat.le_trans (bulk_part (by simp)) hk
  obtain ⟨mr, rfl, hmr, hml⟩ := pays_row h6
  obtain ⟨x2, rfl, hx2⟩ := u32_nat w2
  clear hA0
  refine (walk a0 a1 x2 cap3 cap4 cap5 cap6 a3 a4 a5 a6 l m pp mr hx2 W hs hm hpp hmr (by omega) (handle hL)).mono fun e W' ⟨he, bel⟩ => ?_
  subst he
  exact ⟨_, rfl, _, _, _, [], _, [], hW', trodAll_mk1 (shut_bool Tryd.underlying4 _), (trodAll_cons_mk (shut_int Tryd.underlying3 w0) (trodAll_cons_mk (shut_int Tryd.underlying3 w1) (trodAll_cons_mk (shut_int Tryd.underlying22 w2) (trodAll_cons_mk (Below.trod laidOut (by kernel_rfl) (of_decide_eq_true (by kernel_rfl)) k3 bel lt3) (trodAll_cons_mk (Below.trod laidOut (by kernel_rfl) (of_decide_eq_true (by kernel_rfl)) k4 bel lt4) (trodAll_cons_mk (Below.trod laidOut (by kernel_rfl) (of_decide_eq_true (by kernel_rfl)) k5 bel lt5) (trodAll_cons_mk (Below.trod laidOut (by kernel_rfl) (of_decide_eq_true (by kernel_rfl)) k6 bel lt6) trodAll_mk0))))))), rfl, bel.frame _, fun h => by cases h⟩

/-- a world for the witness: the settled one, the variable's cell laid -/
noncomputable def laidWorld (os : Os) : World :=
  { World.holding Tryd.prog os ⟨#[], #[], []⟩ with heap := (World.holding Tryd.prog os ⟨#[], #[], []⟩).heap.modify 0 fun
      | .cells _ t frozen => .cells #[errCell] t frozen
      | o => o }
theorem laid_met (os : Os) (args : Array Value) : laidMetH Tryd.prog Rows.topGoesUptoRow.laid ((laidWorld os).forCall (fun _ _ => 0) ⟨#[], args, []⟩).memory :=
  laidMetH_of_parts (laidMet_nil _ _) (by kernel_rfl)
theorem reads (os : Os) {H : Type} (enc : TypeId × Value → H) : ∃ places, DataW.whole enc Tryd.prog ((laidWorld os).forCall (fun _ _ => 0) ⟨#[], #[Value.int .i64 0, Value.int .i64 0, Value.int .u32 0, Value.slice none 0 0, Value.slice none 0 0, Value.slice none 0 0, Value.slice none 0 0], []⟩).memory Tryd.f4.params.toList Rows.topGoesSpec.vars false #[Value.int .i64 0, Value.int .i64 0, Value.int .u32 0, Value.slice none 0 0, Value.slice none 0 0, Value.slice none 0 0, Value.slice none 0 0].toList 8 = some ([.lit (.int .i64 0), .lit (.int .i64 0), .lit (.int .u32 0), .nil, .nil, .nil, .nil], [], places) :=
  ⟨[], by kernel_rfl⟩

theorem lifted (os : Os) (started : os.Started) (H : Type) (enc : TypeId × Value → H) (F : Stop.Interp) :
    ReturnsInHanded {} Tryd.checked os 4 .any ((Rows.OpenSpec.upto Rows.topGoesSpec).preRow enc Tryd.prog Tryd.f4 Rows.topGoesUptoRow.domain false Rows.topGoesUptoRow.laid) (((Rows.OpenSpec.upto Rows.topGoesSpec).at F).post enc Tryd.prog Tryd.f4 false true false false) := by
  obtain ⟨places, hx⟩ := reads os enc
  refine returnsInHanded_of_row (C := Tryd.checked) (s := Rows.OpenSpec.upto Rows.topGoesSpec) own started (by kernel_rfl) Tryd.func4
    (witness_row_at (enc := enc) (C := Tryd.checked) false (laidWorld os) #[Value.int .i64 0, Value.int .i64 0, Value.int .u32 0, Value.slice none 0 0, Value.slice none 0 0, Value.slice none 0 0, Value.slice none 0 0] rfl (by kernel_rfl) (by kernel_rfl) (by kernel_rfl)
      (OpenSpec.preRow_of_cond 8 hx (by kernel_rfl) (fun k hk => by cases hk; kernel_rfl) (by kernel_rfl) (laid_met os _))) ?_
  intro W base args ds gs before hval hW _ hcond _ hL _ _
  exact contract H enc W base args ds gs before hval hW hcond hL

theorem saidUpto : Rows.TopGoesUptoSaid :=
  OpenClaim.holds_of_cond 4 Tryd.f4 rfl rfl rfl rfl rfl rfl rfl ⟨rfl, rfl, rfl, rfl, rfl⟩ rfl rfl rfl rfl rfl (by kernel_rfl) Tryd.func4 (by kernel_rfl)
    (of_decide_eq_true (by kernel_rfl)) (by unfold Func.isWrapper; first | (rw [if_pos (by decide +kernel)]; kernel_rfl) | (rw [if_neg (by decide +kernel)]; exact ⟨rfl, rfl⟩))
    (fun os started H enc _ F => by rw [OpenClaim.pre_eq_preRow]; exact lifted os started H enc F)

theorem wants : ([3, 3, 22, 23, 24, 25, 31].all fun t => !Tryd.prog.wantsStandIn t) = true := by kernel_rfl
theorem plain (f : FuncId) (fn : Func) (hf : Tryd.pinned.checked.prog.funcNamed "folkmoot/folkmoottop.TopGoes" = some f) (hfn : Tryd.pinned.checked.prog.funcs[f]? = some fn) :
    true = Tryd.pinned.checked.prog.looks [] ∧ ∀ (j : Nat) t, fn.params[j]? = some t → Tryd.pinned.checked.prog.wantsStandIn t = false := by
  obtain rfl : f = 4 := Option.some.inj ((show Tryd.prog.funcNamed "folkmoot/folkmoottop.TopGoes" = some 4 by kernel_rfl).symm.trans hf) |>.symm
  obtain rfl : fn = Tryd.f4 := (Option.some.inj (Tryd.func4.symm.trans hfn)).symm
  refine ⟨by kernel_rfl, fun j t ht => ?_⟩
  rw [Tryd.params4] at ht
  have hm := Array.mem_of_getElem? ht
  have hw := List.all_eq_true.1 wants t (by simpa using hm)
  show Tryd.prog.wantsStandIn t = false
  simpa using hw

/-- the given statement -/
theorem proved : Rows.TopGoesUptoCardSaid :=
  Claim7.holds_tied_plain_at .later [] _ _ _ _ saidUpto (fun _ h => by cases h) (by kernel_rfl) (fun _ h => by cases h) topGoesUpto_row_tie rfl ⟨rfl, rfl⟩ (by kernel_rfl) rfl plain (by kernel_rfl)
#print axioms proved
end Go.Proofs.YtkcekjpohpenkaaDoor.topGoes
