import Derived.Test.YtkcekjpohpenkaaDoorBall
import Derived.Sort.QuietIn
/- folkmootref.Pays at like lists. -/
set_option linter.unusedVariables false
set_option linter.unusedSimpArgs false
set_option maxRecDepth 100000
namespace Go.Proofs.YtkcekjpohpenkaaDoor
open Go.RowKit Mo
section
variable {w : World}
set_option maxHeartbeats 1000000 in
theorem pays_calls {a b : Option Addr} {ps : List Lg.Pay} (n n' ca cb : Nat) (hn : ps.length = n) (hn' : ps.length = n') (ha : PRow w a ps) (hb : PRow w b ps) (hl : ps.length ≤ 1000) :
    Calls Tryd.prog 8 #[.slice a n ca, .slice b n' cb] w fun e w' => e = .returned (.bool true) ∧ ∃ q, w' = w.drewN q := by
  subst hn hn'
  have HA := Lib.hid ha
  have HB := Lib.hid hb
  have hz : ((ps.length : Int) != (ps.length : Int)) = false := by simp
  clear ha hb
  go_enter Tryd.func8, Tryd.ntmps8
  go_wp2_with fail
  go_loopw [5] (fun v wr => ∃ k q : Nat, v = .int .i64 k ∧ k ≤ ps.length ∧ wr = w.drewN q) (fun v _ => ps.length - (intOf v).toNat)
  case atStart => exact ⟨0, 0, rfl, by omega, rfl⟩
  case round =>
    obtain ⟨k, q, rfl, hk, rfl⟩ := hrel
    have hbr : Below w.heap.size w (w.drewN q) := below_drewN (Below.refl _ _) q
    by_cases hkl : ps.length = k
    · subst hkl
      clear hbr
      go_wp2_with fail
      go_ret
      exact ⟨rfl, q, rfl⟩
    · have hk' : k < ps.length := by omega
      obtain ⟨x, rfl, hx, hxc⟩ := HA.out.row k hk'
      obtain ⟨y, rfl, hy, hyc⟩ := HB.out.row k hk'
      have hg : ps[k]? = some ps[k] := List.getElem?_eq_getElem hk'
      obtain ⟨x0, x1, x2, x3⟩ := hxc _ hg
      obtain ⟨y0, y1, y2, y3⟩ := hyc _ hg
      have a0 : w.cell? (x.add (k * 4)) = some (.int .i64 ps[k].src) := x0
      have a1 : w.cell? ⟨(x.add (k * 4)).block, (x.add (k * 4)).off + 1, none⟩ = some (.int .i64 ps[k].dst) := by show w.cell? ((x.add (k * 4)).add 1) = _; rw [addr_twice]; exact x1
      have a2 : w.cell? ⟨(x.add (k * 4)).block, (x.add (k * 4)).off + 2, none⟩ = some (.int .i64 ps[k].ser) := by show w.cell? ((x.add (k * 4)).add 2) = _; rw [addr_twice]; exact x2
      have a3 : w.cell? ⟨(x.add (k * 4)).block, (x.add (k * 4)).off + 3, none⟩ = some (.int .i64 ps[k].n) := by show w.cell? ((x.add (k * 4)).add 3) = _; rw [addr_twice]; exact x3
      have b0 : w.cell? (y.add (k * 4)) = some (.int .i64 ps[k].src) := y0
      have b1 : w.cell? ⟨(y.add (k * 4)).block, (y.add (k * 4)).off + 1, none⟩ = some (.int .i64 ps[k].dst) := by show w.cell? ((y.add (k * 4)).add 1) = _; rw [addr_twice]; exact y1
      have b2 : w.cell? ⟨(y.add (k * 4)).block, (y.add (k * 4)).off + 2, none⟩ = some (.int .i64 ps[k].ser) := by show w.cell? ((y.add (k * 4)).add 2) = _; rw [addr_twice]; exact y2
      have b3 : w.cell? ⟨(y.add (k * 4)).block, (y.add (k * 4)).off + 3, none⟩ = some (.int .i64 ps[k].n) := by show w.cell? ((y.add (k * 4)).add 3) = _; rw [addr_twice]; exact y3
      have HK := Lib.hid hkl
      clear hbr hxc hyc hg hkl x0 x1 x2 x3 y0 y1 y2 y3
      generalize ps[k] = p at a0 a1 a2 a3 b0 b1 b2 b3
      obtain ⟨p0, p1, p2, p3⟩ := p
      simp only at a0 a1 a2 a3 b0 b1 b2 b3
      have z0 : (p0 == p0) = true := by simp
      have z1 : (p1 == p1) = true := by simp
      have z2 : (p2 == p2) = true := by simp
      have z3 : (p3 == p3) = true := by simp
      go_wp2_with fail
      go_quiet (fail)
      go_wp2_with fail
      go_roundw
      case measure => simp [intOf]; omega
      exact ⟨k + 1, q + nq, by simp, by omega, by simp⟩
end
end Go.Proofs.YtkcekjpohpenkaaDoor
