import Derived.Test.YtkcekjpohpenkaaDoorLedger
/- The ledger's walks: all pays. -/
set_option linter.unusedVariables false
set_option linter.unusedSimpArgs false
set_option maxRecDepth 100000
namespace Go.Proofs.YtkcekjpohpenkaaDoor
open Go.RowKit Mo

/-- pays, to be read -/
structure PRow (w : World) (a : Option Addr) (ps : List Lg.Pay) : Prop where
  row : ∀ i : Nat, i < ps.length → ∃ b : Addr, a = some b ∧ b.block < w.heap.size ∧ ∀ p, ps[i]? = some p →
    w.cell? (b.add (i * 4)) = some (.int .i64 p.src) ∧ w.cell? (b.add (i * 4 + 1)) = some (.int .i64 p.dst) ∧ w.cell? (b.add (i * 4 + 2)) = some (.int .i64 p.ser) ∧ w.cell? (b.add (i * 4 + 3)) = some (.int .i64 p.n)
theorem PRow.later {w w' : World} {a : Option Addr} {ps : List Lg.Pay} (h : PRow w a ps) (hb : Below w.heap.size w w') : PRow w' a ps :=
  ⟨fun i hi => by
    obtain ⟨b, rfl, hlt, hx⟩ := h.row i hi
    refine ⟨b, rfl, Nat.lt_of_lt_of_le hlt hb.size, fun p hp => ?_⟩
    obtain ⟨x0, x1, x2, x3⟩ := hx p hp
    have hc : ∀ n, w'.cell? (b.add n) = w.cell? (b.add n) := fun n => hb.cell (p := b.add n) (by rw [addr_block]; exact hlt)
    rw [hc, hc, hc, hc]
    exact ⟨x0, x1, x2, x3⟩⟩

def start0 (m : List Int) : List Lg.Acc := m.map fun x => (x, 0)
theorem start0_snoc (m : List Int) (k : Nat) (x : Int) (h : m[k]? = some x) : pairCells (start0 (m.take k)) ++ [.int .i64 x, .int .i64 0] = pairCells (start0 (m.take (k + 1))) := by
  have ht : m.take (k + 1) = m.take k ++ [x] := by rw [List.take_add_one, h]; rfl
  rw [ht]
  unfold start0
  rw [List.map_append, pairCells_append]
  rfl

/-- what the ledger tells -/
structure Led (w : World) (m : List Int) (ps : List Lg.Pay) (e : Ending) (w' : World) : Prop where
  some : ∃ ga ca cod, e = .returned (.tuple #[.slice (some ⟨ga, 0, none⟩) m.length ca, cod, .int .i64 0]) ∧ Own w' w.heap.size 39 2 ga ca m.length (pairCells (Lg.run (start0 m) ps).1) ∧
    w'.ownsRow w.heap.size 35 1 cod ps.length (codeCells (Lg.run (start0 m) ps).2) ∧ Below w.heap.size w w'

section
variable {w : World} {a pa : Option Addr} {m : List Int} {ps : List Lg.Pay} {cap pc : Nat}
set_option maxHeartbeats 1000000 in
theorem ledger_large (n k : Nat) (h : n = 0 ∨ 12 < n ∨ 60 < k) :
    Calls Tryd.prog 14 #[.slice a n cap, .slice pa k pc] w fun e w' => e = .returned (.tuple #[.slice none 0 0, .slice none 0 0, .int .i64 1]) ∧ w = w' := by
  by_cases h0 : n = 0
  · subst h0
    have z : ((0 : Int) == 0) = true := rfl
    go_enter Tryd.func14, Tryd.ntmps14
    go_wp2_with fail
    go_ret3
    exact ⟨rfl, rfl⟩
  · have z : ((n : Int) == 0) = false := by simpa using h0
    by_cases h1 : 12 < n
    · have z1 : decide ((12 : Int) < (n : Int)) = true := by simp; omega
      go_enter Tryd.func14, Tryd.ntmps14
      go_wp2_with fail
      go_ret3
      exact ⟨rfl, rfl⟩
    · have z1 : decide ((12 : Int) < (n : Int)) = false := by simp; omega
      have h2 : 60 < k := by omega
      have z2 : decide ((60 : Int) < (k : Int)) = true := by simp; omega
      go_enter Tryd.func14, Tryd.ntmps14
      go_wp2_with fail
      go_ret3
      exact ⟨rfl, rfl⟩

set_option maxHeartbeats 1000000 in
theorem ledger_arg (k : Nat) (h0 : m.length ≠ 0) (h1 : m.length ≤ 12) (h2 : k ≤ 60) (hr : MRow w a m) (hb : m.any bad = true) :
    Calls Tryd.prog 14 #[.slice a m.length cap, .slice pa k pc] w fun e w' => e = .returned (.tuple #[.slice none 0 0, .slice none 0 0, .int .i64 2]) ∧ w = w' := by
  have z : ((m.length : Int) == 0) = false := by rw [beq_eq_false_iff_ne]; omega
  have z1 : decide ((12 : Int) < (m.length : Int)) = false := by simp; omega
  have z2 : decide ((60 : Int) < (k : Int)) = false := by simp; omega
  have hc := Lib.hid (contains_calls (cap := cap) hr (by omega) true hb)
  clear hr hb
  go_enter Tryd.func14, Tryd.ntmps14
  go_wp2_with (go_at_call 26; refine (hc.out).mono ?_; rintro e w' ⟨rfl, rfl⟩)
  go_ret3
  exact ⟨rfl, rfl⟩

set_option maxHeartbeats 2000000 in
theorem ledger_ok (h0 : m.length ≠ 0) (h1 : m.length ≤ 12) (h2 : ps.length ≤ 60) (hg : Laid w) (hr : MRow w a m) (hp : PRow w pa ps) (hb : m.any bad = false) :
    Calls Tryd.prog 14 #[.slice a m.length cap, .slice pa ps.length pc] w (Led w m ps) := by
  have z : ((m.length : Int) == 0) = false := by rw [beq_eq_false_iff_ne]; omega
  have z1 : decide ((12 : Int) < (m.length : Int)) = false := by simp; omega
  have z2 : decide ((60 : Int) < (ps.length : Int)) = false := by simp; omega
  have hc := Lib.hid (contains_calls (cap := cap) hr (by omega) false hb)
  have HR := Lib.hid hr
  have HP := Lib.hid hp
  have HG := Lib.hid hg
  have hOk : Lg.Ok (start0 m) 0 := Lg.Ok.start (m := m) (fun x hx => by
    have : bad x = false := by
      cases hbx : bad x with
      | false => rfl
      | true => exact absurd (List.any_eq_true.2 ⟨x, hx, hbx⟩) (by rw [hb]; simp)
    simp only [bad, Bool.or_eq_false_iff, decide_eq_false_iff_not] at this
    omega)
  have HO := Lib.hid hOk
  have hpos := hg.pos
  clear hr hb hp hg hOk
  go_enter Tryd.func14, Tryd.ntmps14
  go_wp2_with (go_at_call 26; refine (hc.out).mono ?_; rintro e w' ⟨rfl, rfl⟩)
  go_loopw [7, 30] (fun v0 i wr => ∃ (v : Value) (k : Nat), v = v0 ∧ i = .int .i64 k ∧ k ≤ m.length ∧ wr.ownsRow w.heap.size 39 2 v k (pairCells (start0 (m.take k))) ∧ Below w.heap.size w wr) (fun _ i _ => m.length - (intOf i).toNat)
  case atStart => exact ⟨_, 0, rfl, rfl, by omega, World.ownsRow_nil _ _ _ _, Below.refl _ _⟩
  case round =>
    obtain ⟨v, k, rfl, rfl, hk, hO0, hB0⟩ := hrel
    have hO := Lib.hid hO0
    have hB := Lib.hid hB0
    have hwr := hB0.size
    obtain ⟨i0, hi0, hz0, hz1, hz2⟩ := info_parts info_account
    have HI := Lib.hid (And.intro hi0 (And.intro hz0 (And.intro hz1 hz2)))
    clear hi0 hz0 hz1 hz2
    by_cases hkl : m.length = k
    · subst hkl
      obtain ⟨ga, ca, hv, hga, hgl⟩ := hO0.form (by omega)
      subst hv
      clear hO0 hB0
      rw [List.take_length] at hO
      go_wp2_with fail
      generalize hW0 : wr = W0 at hO hB hwr hgl ⊢
      have HW0 := Lib.hid hW0
      clear hW0
      go_loopw [10, 42] (fun v0 i wr => ∃ (v : Value) (k : Nat), v = v0 ∧ i = .int .i64 k ∧ k ≤ ps.length ∧ Own wr w.heap.size 39 2 ga ca m.length (pairCells (Lg.run (start0 m) (ps.take k)).1) ∧
        wr.ownsRow w.heap.size 35 1 v k (codeCells (Lg.run (start0 m) (ps.take k)).2) ∧ Below w.heap.size w wr) (fun _ i _ => ps.length - (intOf i).toNat)
      case atStart => exact ⟨_, 0, rfl, rfl, by omega, hO.out, World.ownsRow_nil _ _ _ _, hB.out⟩
      case round =>
        obtain ⟨v, k, rfl, rfl, hk, hA0, hC0, hB0⟩ := hrel
        have hA := Lib.hid hA0
        have hC := Lib.hid hC0
        have hB := Lib.hid hB0
        have hwr := hB0.size
        by_cases hkp : ps.length = k
        · subst hkp
          clear hA0 hB0
          rw [List.take_length] at hA hC
          clear hC0
          go_wp2_with fail
          go_ret3
          exact ⟨ga, ca, v, rfl, hA.out, hC.out, hB.out⟩
        · have hk' : k < ps.length := by omega
          obtain ⟨ab, rfl, hab, hx⟩ := HP.out.row k hk'
          have hxl : ps[k]? = some ps[k] := List.getElem?_eq_getElem hk'
          obtain ⟨x0, x1, x2, x3⟩ := hx _ hxl
          have y0 : wr.cell? (ab.add (k * 4)) = some (.int .i64 ps[k].src) := (hB0.cell (p := ab.add (k * 4)) (by rw [addr_block]; exact hab)).trans x0
          have y1 : wr.cell? ⟨(ab.add (k * 4)).block, (ab.add (k * 4)).off + 1, none⟩ = some (.int .i64 ps[k].dst) := by show wr.cell? ((ab.add (k * 4)).add 1) = _; rw [addr_twice]; exact (hB0.cell (p := ab.add (k * 4 + 1)) (by rw [addr_block]; exact hab)).trans x1
          have y2 : wr.cell? ⟨(ab.add (k * 4)).block, (ab.add (k * 4)).off + 2, none⟩ = some (.int .i64 ps[k].ser) := by show wr.cell? ((ab.add (k * 4)).add 2) = _; rw [addr_twice]; exact (hB0.cell (p := ab.add (k * 4 + 2)) (by rw [addr_block]; exact hab)).trans x2
          have y3 : wr.cell? ⟨(ab.add (k * 4)).block, (ab.add (k * 4)).off + 3, none⟩ = some (.int .i64 ps[k].n) := by show wr.cell? ((ab.add (k * 4)).add 3) = _; rw [addr_twice]; exact (hB0.cell (p := ab.add (k * 4 + 3)) (by rw [addr_block]; exact hab)).trans x3
          have habw : ab.block < wr.heap.size := by omega
          have hOk := HO.out.run (ps.take k)
          have hlen : (Lg.run (start0 m) (ps.take k)).1.length = m.length := by rw [(Lg.run_length _ _).1]; simp [start0]
          have htk : ps.take (k + 1) = ps.take k ++ [ps[k]] := by rw [List.take_add_one, hxl]; rfl
          have hsn := Lib.hid (Lg.run_snoc (start0 m) ps[k] (ps.take k))
          have hga := hA0.ge
          have hG1 := HG.out.below hpos hB0
          obtain ⟨i0, hi0, hz0, hz1, hz2⟩ := info_parts info_errno
          have HJ := Lib.hid (And.intro hi0 (And.intro hz0 (And.intro hz1 hz2)))
          clear hi0 hz0 hz1 hz2 hx hxl x0 x1 x2 x3
          have hpay := pay_calls (w := wr.alloc (.cells #[.int .i64 ps[k].src, .int .i64 ps[k].dst, .int .i64 ps[k].ser, .int .i64 ps[k].n] 41)) (B := w.heap.size) (ga := ga) (cap := ca) (k := 0 + (ps.take k).length) (l := (Lg.run (start0 m) (ps.take k)).1)
            (by rw [hlen]; exact hA0.alloc _) (by omega) (by rw [List.length_take]; omega) hOk ps[k]
          rw [hlen] at hpay
          unfold payV at hpay
          have hlt := hA0.lt
          have hPay := Lib.hid hpay
          have HT := Lib.hid (And.intro htk hlen)
          have HK := Lib.hid hkp
          have HG1 := Lib.hid hG1
          clear hpay hOk htk hlen hkp hA0 hB0 hC0 hG1
          generalize hst : Lg.step (Lg.run (start0 m) (ps.take k)).1 ps[k] = l2 at hPay hsn
          generalize hco : Lg.code (Lg.run (start0 m) (ps.take k)).1 ps[k] = c2 at hPay hsn
          have HST := Lib.hid (And.intro hst hco)
          clear hst hco
          generalize ps[k] = p at *
          go_wp2_with fail
          refine (hPay.out).mono ?_
          intro e w2 hpa
          have hret := hpa.ret
          subst hret
          have hA2 := Lib.hid hpa.own
          have hG2 := Lib.hid hpa.grown
          have hL2 := Laid.grown (Laid.below HG1.out HG1.out.pos ((Below.refl wr.heap.size wr).alloc (Nat.le_refl _) (.cells #[.int .i64 p.src, .int .i64 p.dst, .int .i64 p.ser, .int .i64 p.n] 41))) hpa.grown (by omega)
          have hcode := Lib.hid (code_calls w2 hL2 c2)
          clear hpa hL2
          go_wp2_with fail
          refine (hcode.out).mono ?_
          rintro e w3 ⟨rfl, hb3⟩
          have hne : some ga ≠ v.ownBlock := by
            obtain ⟨cur, hcur, _⟩ := Own.blk hA.out
            exact row_ne hC.out hcur (by decide)
          have hA3 := Lib.hid (hA2.out.same (hb3.block ga hA2.out.lt))
          have hC2 := (hC.out.alloc (.cells #[.int .i64 p.src, .int .i64 p.dst, .int .i64 p.ser, .int .i64 p.n] 41)).kept hG2.out (.inr (Ne.symm hne))
          have hC3 := Lib.hid (row_turned hC2 (w' := w3) (fun g cs hg => hb3.block g hg.lt))
          have hB2 := (hB.out.alloc hwr (.cells #[.int .i64 p.src, .int .i64 p.dst, .int .i64 p.ser, .int .i64 p.n] 41)).grown hG2.out (Nat.le_trans hwr (by simp)) (fun k hk => by cases hk; exact hga)
          have hB3 := Lib.hid (hB2.trans (hb3.mono hB2.size))
          have hw3 := hB3.out.size
          clear hC2 hB2 hb3 hcode hPay
          go_wp2_with (at_builtin; refine wpList_append_lies _ rfl (.tmp 46) (.tmp 51) 26 rfl w.heap.size 35 i0 _ 1 8 Tryd.underlying26 HJ.out.1 HJ.out.2.1 HJ.out.2.2.1 HJ.out.2.2.2 rfl (by omega) v k (codeCells (Lg.run (start0 m) (ps.take k)).2) (by rfl) (hC3.out.alloc _) ⟨w3.heap.size, 0, none⟩ 1 1 [.int .i64 c2] (by rfl) (by rfl) (World.news_of_block (cs := #[.int .i64 c2]) (t := 35) (fr := (0, 0)) (heap_alloc_new w3 _)) (by simp [Value.oneCell']) (by omega) (by unfold maxLen; omega) (by omega) (by simp; omega) (w3.heap.size + 1) (by simp) ?_; intro gg cap6 w6 hown6 hgrow6 hat6 hlt6; have hO6 := Lib.hid hown6; have hG6 := Lib.hid hgrow6; have hB6 := Lib.hid ((hB3.out.alloc hw3 _).grown hgrow6 (Nat.le_trans hw3 (by simp)) (fun k hk => (hC3.out.lt k hk).1)); clear hown6 hgrow6 hat6)
          have hA6 : Own w6 w.heap.size 39 2 ga ca l2.length (pairCells l2) := (hA3.out.alloc _).kept hG6.out (.inr hne)
          have hl2 : l2.length = m.length := by rw [← HST.out.1, Lg.step_length, HT.out.2]
          rw [hl2] at hA6
          have hA6' := Lib.hid hA6
          clear hA6 hl2
          go_roundw
          case measure => simp [intOf]; omega
          exact ⟨_, k + 1, rfl, by simp, by omega, by rw [HT.out.1, hsn.out]; exact hA6'.out, by rw [HT.out.1, hsn.out]; simpa [codeCells] using hO6.out, hB6.out⟩
    · have hk' : k < m.length := by omega
      obtain ⟨ab, rfl, hab, hx⟩ := HR.out.row k hk'
      have hxl : m[k]? = some m[k] := List.getElem?_eq_getElem hk'
      have y0 := (hB0.cell (p := ab.add k) (by rw [addr_block]; exact hab)).trans (hx _ hxl)
      have hsn := Lib.hid (start0_snoc m k _ hxl)
      have HX := Lib.hid hx
      have HK := Lib.hid hkl
      have habw : ab.block < wr.heap.size := by omega
      clear hx hxl hkl hO0 hB0
      generalize m[k] = x at y0 hsn
      go_wp2_with (at_builtin; refine wpList_append_lies _ rfl (.tmp 34) (.tmp 37) 32 rfl w.heap.size 39 i0 _ 2 16 Tryd.underlying32 HI.out.1 HI.out.2.1 HI.out.2.2.1 HI.out.2.2.2 rfl (by omega) v k (pairCells (start0 (m.take k))) (by rfl) (hO.out.alloc _) ⟨wr.heap.size, 0, none⟩ 1 1 [.int .i64 x, .int .i64 0] (by rfl) (by rfl) (World.news_of_block (cs := #[.int .i64 x, .int .i64 0]) (t := 39) (fr := (0, 0)) (heap_alloc_new wr _)) (by simp [Value.oneCell']) (by omega) (by unfold maxLen; omega) (by omega) (by simp; omega) (wr.heap.size + 1) (by simp) ?_; intro gg cap6 w6 hown6 hgrow6 hat6 hlt6; have hO6 := Lib.hid hown6; have hB6 := Lib.hid ((hB.out.alloc hwr _).grown hgrow6 (Nat.le_trans hwr (by simp)) (fun k hk => (hO.out.lt k hk).1)); clear hown6 hgrow6 hat6)
      go_roundw
      case measure => simp [intOf]; omega
      exact ⟨_, k + 1, rfl, by simp, by omega, by rw [← hsn.out]; exact hO6.out, hB6.out⟩
end
end Go.Proofs.YtkcekjpohpenkaaDoor
