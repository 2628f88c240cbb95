import Derived.Test.YtkcekjpohpenkaaDoorMj
set_option linter.unusedVariables false
set_option linter.unusedSimpArgs false
set_option maxRecDepth 100000
namespace Go.Proofs.YtkcekjpohpenkaaDoor
open Go.RowKit Mo
open Go.Maps (Keyed)
open Go.ChangeMaps (setBlock)

theorem arr_law : WideMaps.KeyLaw Tryd.prog 106 := deep_law_laid (k := 106) (m := 3) (by kernel_rfl) (by omega) (by rw [types_size]; decide) (by kernel_rfl) (by kernel_rfl)
theorem zero_int (w : World) : (zeroValue 3).run Tryd.prog w = .ok (.int .i64 0) w := by kernel_rfl

theorem setBlock_twice (w : World) (b : Nat) (x y : Obj) : setBlock (setBlock w b x) b y = setBlock w b y := by simp [setBlock]

section
variable {w : World} {m K : Nat}
/-- one more that was given up -/
theorem late_put {L : List (Int × Int × Int)} (h : LateAt w m L K) (x : Int × Int × Int) {kl : Lit} (hk : keyOf Tryd.prog 105 (gv x.1 x.2.1 x.2.2) = some kl) (hK : K ≤ 1000) :
    ∃ w', (Instr.mapUpdate 67 (.map (some m)) (gv x.1 x.2.1 x.2.2) (.int .i64 1)).run Tryd.prog w = .ok () w' ∧ LateAt w' m (x :: L) (K + 1) ∧ w.grownBy w' (some m) := by
  obtain ⟨n, D, hn, hown, hD⟩ := h
  obtain ⟨w', hrun, hown', hg⟩ := hown.update given_keyed Tryd.underlying67 (by unfold maxLen; omega) hk (plainElem_int (a := 1) Tryd.underlying3 (by decide))
  refine ⟨w', hrun, ⟨n + 1, _, by omega, hown', fun v kl' hv => ?_⟩, hg⟩
  by_cases e : kl' = kl
  · subst e
    have ev := given_keyed.inj hv hk
    rw [Maps.has_put_same (hown.isMap) (given_keyed.key hk)]
    simp only [true_iff]
    exact ⟨x, List.mem_cons_self .., ev⟩
  · rw [Maps.has_put_other e, hD v kl' hv]
    constructor
    · rintro ⟨y, hy, hv'⟩
      exact ⟨y, List.mem_cons_of_mem _ hy, hv'⟩
    · rintro ⟨y, hy, hv'⟩
      rcases List.mem_cons.1 hy with rfl | hy
      · rw [hv', hk] at hv
        exact absurd (Option.some.inj hv).symm e
      · exact ⟨y, hy, hv'⟩

theorem setBlock_at {b : Nat} (h : b < w.heap.size) (o : Obj) : (setBlock w b o).heap[b]? = some o := by simp [setBlock, h]
theorem setBlock_grown (b : Nat) (o : Obj) : w.grownBy (setBlock w b o) (some b) := ⟨rfl, rfl, rfl, by simp [setBlock], fun k _ hk => by
  simp only [setBlock]
  rw [Array.getElem?_setIfInBounds_ne (fun e => hk (by rw [e]))]⟩

/-- what 'm.gave[k]++' does: the look-up, the entry, the store, in whichever order -/
structure Inc (w : World) (m : Nat) (key : Value) (c : Nat) (v0 : Value) (st : Nat) (W1 W2 : World) : Prop where
  look : (Instr.lookup 68 (.map (some m)) key false).run Tryd.prog w = .ok (.int .i64 c) w
  entry : (Instr.mapEntry 68 (.map (some m)) key).run Tryd.prog w = .ok (.tuple #[v0, goInt st]) W1
  look1 : (Instr.lookup 68 (.map (some m)) key false).run Tryd.prog W1 = .ok (.int .i64 c) W1
  store : (Instr.entryStore 68 (.map (some m)) (goInt st) (.int .i64 ((c : Int) + 1))).run Tryd.prog W1 = .ok () W2
  look2 : (Instr.lookup 68 (.map (some m)) key false).run Tryd.prog W2.drew = .ok (.int .i64 ((c : Int) + 1)) W2.drew

theorem gave_inc {L : List (Int × Int)} (h : GaveAt w m L K) (x : Int × Int) {kl : Lit} (hk : keyOf Tryd.prog 106 (av x.1 x.2) = some kl) (hK : K ≤ 1000) :
    ∃ c v0 st W1 W2, Inc w m (av x.1 x.2) c v0 st W1 W2 ∧ c ≤ K ∧ (0 < c ↔ x ∈ L) ∧ GaveAt W2 m (x :: L) (K + 1) ∧ w.grownBy W1 (some m) ∧ w.grownBy W2 (some m) := by
  obtain ⟨n, D, hn, hown, hD⟩ := h
  have hown0 := hown
  obtain ⟨c, hc1, hc2, hc3⟩ := hD x kl hk
  obtain ⟨es, clock, hb, F, hs, rfl⟩ := hown
  have hlt : m < w.heap.size := hown0.lt
  obtain ⟨v0, st, es1, clock1, hent, hv0, hstore⟩ := WideElems.entry_then_store (z := .int .i64 0) arr_law Tryd.underlying68 (fun u => zero_int u) hb F hk
  obtain ⟨es', clock', hst, hupd⟩ := hstore (setBlock w m (.map es1 clock1)) (.int .i64 ((c : Int) + 1)) (setBlock_at hlt _)
  obtain ⟨c0, hl0, ha0, hw0⟩ := hown0.lookup_int arr_keyed Tryd.underlying68 Tryd.underlying3 (zero_int w) hk
  have ec : c0 = (c : Int) := by
    rw [hc1] at ha0
    simp at ha0
    exact ha0.symm
  subst ec
  obtain ⟨w', hrun, hown', hg'⟩ := hown0.update arr_keyed Tryd.underlying68 (by unfold maxLen; omega) hk (plainElem_int (a := (c : Int) + 1) Tryd.underlying3 (WalkArith.wf_i64 (by omega)))
  have ew : w' = setBlock w m (.map es' clock') := by
    rw [hupd] at hrun
    simpa using hrun.symm
  rw [setBlock_twice] at hst
  subst ew
  obtain ⟨c2, hl2, ha2, hw2⟩ := hown'.drew.lookup_int arr_keyed Tryd.underlying68 Tryd.underlying3 (zero_int _) hk
  have ec2 : c2 = (c : Int) + 1 := by
    rw [Maps.atKey_put_same hown0.isMap (arr_keyed.key hk)] at ha2
    simp at ha2
    exact ha2.symm
  subst ec2
  refine ⟨c, v0, st, _, _, ⟨hl0, hent, ?_, hst, hl2⟩, hc2, hc3, ⟨n + 1, _, by omega, hown', fun y kl' hy => ?_⟩, setBlock_grown _ _, hg'⟩
  · -- the look-up behind the entry
    have hW1 : (setBlock w m (.map es1 clock1)).heap[m]? = some (.map es1 clock1) := setBlock_at hlt _
    have hes1 : (∃ e ∈ es1.toList, e.key = av x.1 x.2 ∧ e.val = v0) ∧ (∀ e ∈ es1.toList, ∃ l, keyOf Tryd.prog 106 e.key = some l) ∧ (∀ e ∈ es1.toList, e.key = av x.1 x.2 → e.val = v0) := by
      rcases arr_law.find w hk es.toList F.keys with ⟨h1, h2⟩ | ⟨j, e0, h1, h2, h3⟩
      · have hr : (Instr.mapEntry 68 (.map (some m)) (av x.1 x.2)).run Tryd.prog w = .ok (.tuple #[.int .i64 0, goInt clock]) (setBlock w m (.map (es.push ⟨av x.1 x.2, .int .i64 0, clock⟩) (clock + 1))) := by
          simp [Instr.mapEntry, run_underlying Tryd.underlying68, MapKept.run_getObj_map hb, arr_law.check w false hk, h1, zero_int, MapKept.run_setObj_map _ hb, Result.andThen, setBlock]
        rw [hr] at hent
        injection hent with e1 e2
        have e3 := congrArg (fun u : World => u.heap[m]?) e2
        simp only [setBlock_at hlt] at e3
        injection e3 with e3
        injection e3 with e3 _
        simp at e1
        obtain ⟨rfl, _⟩ := e1
        subst e3
        refine ⟨⟨⟨av x.1 x.2, .int .i64 0, clock⟩, by simp, rfl, rfl⟩, ?_, ?_⟩
        · intro e he
          simp at he
          rcases he with he | rfl
          · exact F.keys e (by simpa using he)
          · exact ⟨_, hk⟩
        · intro e he hke
          simp at he
          rcases he with he | rfl
          · exact absurd hke (h2 e (by simpa using he))
          · rfl
      · have hj : es[j]? = some e0 := by simpa using h2
        have hsame : es.modify j (fun e => { e with key := av x.1 x.2 }) = es := by
          apply Array.ext'
          rw [Array.toList_modify, ChangeMaps.modify_eq_set _ _ _ _ h2]
          have : ({ e0 with key := av x.1 x.2 } : MapEntry) = e0 := by rw [← h3]
          rw [this]
          exact WideElems.set_self _ _ _ h2
        have hr : (Instr.mapEntry 68 (.map (some m)) (av x.1 x.2)).run Tryd.prog w = .ok (.tuple #[e0.val, goInt e0.born]) (setBlock w m (.map es clock)) := by
          simp [Instr.mapEntry, run_underlying Tryd.underlying68, MapKept.run_getObj_map hb, arr_law.check w false hk, h1, hj, h3, arr_law.stays w hk, hsame, MapKept.run_setObj_map _ hb, Result.andThen, setBlock]
        rw [hr] at hent
        injection hent with e1 e2
        have e3 := congrArg (fun u : World => u.heap[m]?) e2
        simp only [setBlock_at hlt] at e3
        injection e3 with e3
        injection e3 with e3 _
        simp at e1
        obtain ⟨rfl, _⟩ := e1
        subst e3
        refine ⟨⟨e0, List.mem_of_getElem? h2, h3, rfl⟩, F.keys, ?_⟩
        intro e he hke
        rw [entry_eq_of_key ((MapKept.stamped_iff es clock).1 F.stamped).2.2 he (List.mem_of_getElem? h2) (hke.trans h3.symm)]
    obtain ⟨⟨e, he, hek, hev⟩, hkeys, hval⟩ := hes1
    have hv0c : v0 = .int .i64 c := by
      rcases hv0 with ⟨e0, he0, hek0, rfl⟩ | ⟨hnone, rfl⟩
      · rcases Maps.fit_look (z := .int .i64 0) false arr_keyed Tryd.underlying68 (zero_int w) hb F hk with ⟨_, hno, _⟩ | ⟨e1, y, hm1, hk1, hr1, _, _, _⟩
        · exact absurd hek0 (hno e0 he0)
        · rw [hl0] at hr1
          simp at hr1
          rw [entry_eq_of_key ((MapKept.stamped_iff es clock).1 F.stamped).2.2 he0 hm1 (hek0.trans hk1.symm), ← hr1]
      · rcases Maps.fit_look (z := .int .i64 0) false arr_keyed Tryd.underlying68 (zero_int w) hb F hk with ⟨hr1, _, _⟩ | ⟨e1, y, hm1, hk1, _⟩
        · rw [hl0] at hr1
          simpa using hr1.symm
        · exact absurd hk1 (hnone e1 hm1)
    rcases arr_law.find (setBlock w m (.map es1 clock1)) hk es1.toList hkeys with ⟨h1, h2⟩ | ⟨j, e0, h1, h2, h3⟩
    · exact absurd hek (h2 e he)
    · have := hval e0 (List.mem_of_getElem? h2) h3
      simp [Instr.lookup, run_underlying Tryd.underlying68, MapKept.run_getObj_map hW1, arr_law.check _ _ hk, h1, this, hv0c, Result.andThen]
  · by_cases e : kl' = kl
    · subst e
      have ev := arr_keyed.inj hy hk
      have exy : y = x := by
        obtain ⟨a, b⟩ := x
        obtain ⟨a', b'⟩ := y
        simp [av] at ev
        simp [ev]
      subst exy
      refine ⟨c + 1, ?_, by omega, by simp⟩
      rw [Maps.atKey_put_same hown0.isMap (arr_keyed.key hk)]
      simp
    · obtain ⟨d, hd1, hd2, hd3⟩ := hD y kl' hy
      refine ⟨d, by rw [Maps.atKey_put_other e]; exact hd1, by omega, ?_⟩
      rw [hd3, List.mem_cons]
      constructor
      · exact .inr
      · rintro (rfl | h)
        · rw [hk] at hy
          exact absurd (Option.some.inj hy).symm e
        · exact h
end
end Go.Proofs.YtkcekjpohpenkaaDoor
