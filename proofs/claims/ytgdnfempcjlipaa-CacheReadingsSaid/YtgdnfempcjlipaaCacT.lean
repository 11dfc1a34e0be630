/- Verdicts told to be the same; the question of the statements' helpers. -/
import Derived.Test.YtgdnfempcjlipaaCacS
namespace Go.Proofs.Ytgdnfempcjlipaa
open Go.RowKit Go.Maps

set_option maxRecDepth 100000 in
set_option maxHeartbeats 1000000 in
theorem sameV_true (c1 c2 : Int) (s1 o1 s2 o2 : Value) (v : Ver) (w : World) (h1 : RdV w c1 s1 o1 v) (h2 : RdV w c2 s2 o2 v) :
    Calls Try.prog 19 #[.agg #[.int .u8 c1, s1, o1], .agg #[.int .u8 c2, s2, o2]] w fun e w' => e = .returned (.bool true) ∧ Chg [] w w' := by
  have hc1 := h1.code
  have hc2 := h2.code
  obtain ⟨_, d1, _, r1, _⟩ := h1.sets
  obtain ⟨a1, e1, x1, _⟩ := id r1
  obtain ⟨_, d2, _, r2, _⟩ := h1.soa
  obtain ⟨a2, e2, x2, _⟩ := id r2
  obtain ⟨_, d3, _, r3, _⟩ := h2.sets
  obtain ⟨a3, e3, x3, _⟩ := id r3
  obtain ⟨_, d4, _, r4, _⟩ := h2.soa
  obtain ⟨a4, e4, x4, _⟩ := id r4
  subst x1
  subst x2
  subst x3
  subst x4
  subst hc1
  subst hc2
  have H1 := Lib.hid h1
  have H2 := Lib.hid h2
  clear h1 h2 r1 r2 r3 r4
  generalize d1.length = n1 at *
  generalize d2.length = n2 at *
  generalize d3.length = n3 at *
  generalize d4.length = n4 at *
  go_enter Try.func19, Try.ntmps19
  go_wp2_with fail
  obtain ⟨b1, hb1⟩ : ∃ b1, b1 = w.heap.size := ⟨_, rfl⟩
  rw [← hb1]
  refine calls_abs ?_
  intro w0 hw0
  have hc0 : Chg [] w w0 := by rw [hw0]; exact ((Chg.refl _ _).alloc _).alloc _
  have k1 : w0.heap[b1]? = some (.cells #[.int .u8 (v.code : Nat), .slice a1 n1 e1, .slice a2 n2 e2] 34 (0, 0)) := by rw [hw0, hb1]; exact heap_old (heap_new _ _)
  have k2 : w0.heap[b1 + 1]? = some (.cells #[.int .u8 (v.code : Nat), .slice a3 n3 e3, .slice a4 n4 e4] 34 (0, 0)) := by rw [hw0, hb1]; exact heap_new' _ _ _ (by simp)
  have HC0 := Lib.hid hc0
  have K1 := Lib.hid k1
  have K2 := Lib.hid k2
  clear hw0 hc0 hb1 k1 k2
  refine (sameAll_true _ _ v.sets w0 (H1.out.sets.same HC0.out) (H2.out.sets.same HC0.out)).mono ?_
  rintro e9 w1 ⟨rfl, hc1⟩
  have k1 : w1.cell? ⟨b1, 2, none⟩ = some (.slice a2 n2 e2) := cell_of (hc1.keep K1.out (by simp))
  have k2 : w1.cell? ⟨b1 + 1, 2, none⟩ = some (.slice a4 n4 e4) := cell_of (hc1.keep K2.out (by simp))
  have HC1 := Lib.hid (HC0.out.trans hc1)
  clear hc1
  go_wp2_with fail
  refine (sameAll_true _ _ v.soa w1 (H1.out.soa.same HC1.out) (H2.out.soa.same HC1.out)).mono ?_
  rintro e9 w2 ⟨rfl, hc2⟩
  have HC2 := Lib.hid (HC1.out.trans hc2)
  clear hc2
  go_wp2
  go_ret
  exact ⟨rfl, HC2.out⟩

/-- Are the questions the same, letters of either case alike? -/
def eqQ (q r : Qn) : Bool := (mayQ q && mayQ r && decide (foldS q.nm = foldS r.nm)) && (decide (q.ty = r.ty) && decide (q.cl = r.cl))
theorem eqQ_iff {q r : Qn} : eqQ q r = true ↔ mayQ q = true ∧ mayQ r = true ∧ foldQ q = foldQ r := by
  unfold eqQ foldQ
  simp only [Bool.and_eq_true, decide_eq_true_eq, Qn.mk.injEq]
  constructor
  · rintro ⟨⟨⟨h1, h2⟩, h3⟩, h4, h5⟩; exact ⟨h1, h2, h3, h4, h5⟩
  · rintro ⟨h1, h2, h3, h4, h5⟩; exact ⟨⟨⟨h1, h2⟩, h3⟩, h4, h5⟩
set_option maxRecDepth 100000 in
set_option maxHeartbeats 1000000 in
theorem equal_any (q r : Qn) (b : Bool) (w : World) (hq : q.nm.size ≤ 100000) (hr : r.nm.size ≤ 100000) (hb : Hid (b = eqQ q r)) :
    Calls Try.prog 18 #[.agg (qV q), .agg (qV r)] w fun e w' => e = .returned (.bool b) ∧ Chg [] w w' := by
  obtain ⟨n1, t1, c1⟩ := q
  obtain ⟨n2, t2, c2⟩ := r
  unfold qV
  simp only at hq hr ⊢
  obtain ⟨bn, hbn⟩ : ∃ bn, bn = (mayB n1.data.toList && mayB n2.data.toList && decide (foldS n1 = foldS n2)) := ⟨_, rfl⟩
  have hb2 : b = (bn && (decide (t1 = t2) && decide (c1 = c2))) := by rw [hb.out, hbn]; rfl
  have HBN := Lib.hid hbn
  clear hbn hb
  go_enter Try.func18, Try.ntmps18
  go_wp2_with fail
  obtain ⟨b1, hb1⟩ : ∃ b1, b1 = w.heap.size := ⟨_, rfl⟩
  rw [← hb1]
  refine calls_abs ?_
  intro w0 hw0
  have hc0 : Chg [] w w0 := by rw [hw0]; exact ((Chg.refl _ _).alloc _).alloc _
  have k1 : w0.heap[b1]? = some (.cells #[.string n1, .int .u16 (t1 : Nat), .int .u16 (c1 : Nat)] 24 (0, 0)) := by rw [hw0, hb1]; exact heap_old (heap_new _ _)
  have k2 : w0.heap[b1 + 1]? = some (.cells #[.string n2, .int .u16 (t2 : Nat), .int .u16 (c2 : Nat)] 24 (0, 0)) := by rw [hw0, hb1]; exact heap_new' _ _ _ (by simp)
  have HC0 := Lib.hid hc0
  have K1 := Lib.hid k1
  have K2 := Lib.hid k2
  clear hw0 hc0 hb1 k1 k2
  refine (rsame_any n1 n2 bn w0 hq hr HBN).mono ?_
  rintro e9 w1 ⟨rfl, hc1⟩
  have h1 := hc1.keep K1.out (by simp)
  have h2 := hc1.keep K2.out (by simp)
  have p1 : w1.cell? ⟨b1, 1, none⟩ = some (.int .u16 (t1 : Nat)) := cell_of h1
  have p2 : w1.cell? ⟨b1, 2, none⟩ = some (.int .u16 (c1 : Nat)) := cell_of h1
  have r1 : w1.cell? ⟨b1 + 1, 1, none⟩ = some (.int .u16 (t2 : Nat)) := cell_of h2
  have r2 : w1.cell? ⟨b1 + 1, 2, none⟩ = some (.int .u16 (c2 : Nat)) := cell_of h2
  have HC1 := Lib.hid (HC0.out.trans hc1)
  clear hc1 h1 h2 K1 K2 HBN
  cases bn with
  | false =>
    have hbf : b = false := by rw [hb2]; rfl
    subst hbf
    clear hb2
    go_wp2
    go_ret
    exact ⟨rfl, HC1.out⟩
  | true =>
    rw [Bool.true_and] at hb2
    by_cases ht : t1 = t2
    · subst ht
      obtain ⟨bc, hbc⟩ : ∃ bc, bc = decide (c1 = c2) := ⟨_, rfl⟩
      have tc : ((c1 : Int) == (c2 : Int)) = bc := by rw [hbc, Bool.eq_iff_iff, beq_iff_eq, decide_eq_true_eq]; omega
      have hbb : b = bc := by rw [hb2, hbc]; simp
      subst hbb
      clear hb2 hbc
      go_wp2
      go_ret
      exact ⟨rfl, HC1.out⟩
    · have tt : ((t1 : Int) == (t2 : Int)) = false := by rw [beq_eq_false_iff_ne]; omega
      have hbf : b = false := by rw [hb2]; simp [ht]
      subst hbf
      clear hb2
      go_wp2
      go_ret
      exact ⟨rfl, HC1.out⟩

end Go.Proofs.Ytgdnfempcjlipaa
