/- A case that came in: a book's numbers, acts, a seed, numbers of a tape. -/
import Derived.Test.YtdbannnbbngckaaActs19
import Derived.Test.YtdbannnbbngckaaArgs
import Derived.Lib.SmallJoins
namespace Go.Proofs.Ytdbannnbbngckaa
open Go.ChangeShapes Go.WideShapes Go.Deep Go.RowKit

structure CaseT where
  x : Int
  y : Int
  z : Int
  a : Option Addr
  ac : Nat
  acts : List ActT
  seed : Nat
  f : Option Addr
  fl : Nat
  fc : Nat
  fz : List Int
structure IsCase (w : World) (C : CaseT) : Prop where
  wx : (Lit.int .i64 C.x).wf = true
  wy : (Lit.int .i64 C.y).wf = true
  wz : (Lit.int .i64 C.z).wf = true
  acts : IsActs w C.a C.acts
  seed : C.seed < 18446744073709551616
  first : IsRow .u64 w C.f C.fl C.fc C.fz
def caseA (C : CaseT) : Array Value := #[.int .i64 C.x, .int .i64 C.y, .int .i64 C.z, .slice C.a C.acts.length C.ac, .int .u64 C.seed, .slice C.f C.fl C.fc]

section
variable {H : Type} {enc : TypeId × Value → H} {w : World} {base : Nat} {spare : Nat → Bool} {held : Bool}

theorem okw_slice {P : Program} {t e : TypeId} {v : Value} {fuel : Nat} {x : DataW H × List MemPlace} (ht : P.underlying t = some (.slice e)) (h : DataW.trod enc P w base spare held fuel t [v] = some x) : ∃ a l c, v = .slice a l c := by
  rcases open_slice ht h with ⟨hcs, _⟩ | ⟨x, len', cap', m, n, D, Pl, hcs, _⟩
  · simp at hcs; exact ⟨_, _, _, hcs⟩
  · simp at hcs; exact ⟨_, _, _, hcs⟩

/-- Six fields of one cell each, each with its own reading. -/
theorem fields6 {P : Program} {r : Reach} {b0 : Nat} {t : TypeId} {g0 g1 g2 g3 g4 g5 : Field} {v : Value} {d : DataW H} {p : List MemPlace} (hs : P.underlying t = some (.struct #[g0, g1, g2, g3, g4, g5])) (hone : oneCellFields P #[g0, g1, g2, g3, g4, g5] = true) (hC : P.cellsOf t = 6)
    (hv : Value.okWide P w r b0 t v) (h : DataW.Trod enc P w base spare held t v d p) :
    ∃ (u : Nat → Value) (n : Nat), v = .agg #[u 0, u 1, u 2, u 3, u 4, u 5] ∧ ∀ j g, #[g0, g1, g2, g3, g4, g5][j]? = some g → ∃ y, DataW.trod enc P w base spare held n g.type [u j] = some y := by
  obtain ⟨cs, rfl, hsz⟩ := okWide_struct hs hv
  obtain ⟨fuel, hf⟩ := h
  obtain ⟨xs, n, _, _, hl, hlen, hg⟩ := DataW.trod_struct hs hf
  have hcs : cs.size = 6 := hsz.trans hC
  refine ⟨fun j => cs.getD j .nilFunc, n, ?_, fun j g hj => ?_⟩
  · congr 1
    apply Array.ext
    · simp [hcs]
    · intro i h1 h2
      match i, h1, h2 with
      | 0, _, _ => simp [hcs]
      | 1, _, _ => simp [hcs]
      | 2, _, _ => simp [hcs]
      | 3, _, _ => simp [hcs]
      | 4, _, _ => simp [hcs]
      | 5, _, _ => simp [hcs]
      | i + 6, h1, _ => omega
  · obtain ⟨ho, hk⟩ := hone_of hone j g hj
    have hj6 : j < 6 := by have := (Array.getElem?_eq_some_iff.1 hj).1; simpa using this
    have h1 := hg j g hj
    have hjl : j < cs.toList.length := by simp [hcs]; omega
    have hjx : j < xs.length := by rw [hlen]; simpa using hj6
    rw [ho, hk, List.getElem?_eq_getElem hjx] at h1
    refine ⟨xs[j], ?_⟩
    rw [← h1]
    congr 1
    show [cs.getD j .nilFunc] = (((Value.agg cs).cells.toList).drop j).take 1
    have e : (Value.agg cs).cells.toList = cs.toList := by simp [Value.cells]
    rw [e, List.drop_eq_getElem_cons hjl]
    simp [hcs, hj6]

theorem open_case {r : Reach} {b0 : Nat} {v : Value} {d : DataW H} {p : List MemPlace}
    (hv : Value.okWide Try.prog w r b0 44 v) (h : DataW.Trod enc Try.prog w base (fun _ => true) held 44 v d p) :
    ∃ C : CaseT, v = .agg (caseA C) ∧ IsCase w C := by
  obtain ⟨u, n, rfl, hu⟩ := fields6 Try.underlying44 (by kernel_rfl) (by kernel_rfl) hv h
  obtain ⟨y0, h0⟩ := hu 0 _ rfl
  obtain ⟨y1, h1⟩ := hu 1 _ rfl
  obtain ⟨y2, h2⟩ := hu 2 _ rfl
  obtain ⟨y3, h3⟩ := hu 3 _ rfl
  obtain ⟨y4, h4⟩ := hu 4 _ rfl
  obtain ⟨y5, h5⟩ := hu 5 _ rfl
  obtain ⟨x, e0, _, w0⟩ := DataW.trod_int Try.underlying3 h0
  obtain ⟨y, e1, _, w1⟩ := DataW.trod_int Try.underlying3 h1
  obtain ⟨z, e2, _, w2⟩ := DataW.trod_int Try.underlying3 h2
  obtain ⟨s, e4, _, w4⟩ := DataW.trod_int Try.underlying29 h4
  obtain ⟨sn, rfl, hsn⟩ := nat_of_u64 w4
  obtain ⟨a3, l3, c3, e3⟩ := okw_slice Try.underlying42 h3
  obtain ⟨a, cap, acts, e3, hacts⟩ := acts_trod ⟨a3, l3, c3, e3⟩ ⟨n, by rw [e3] at h3 ⊢; exact h3⟩
  have h5' : ∃ f fl fc fz, u 5 = .slice f fl fc ∧ IsRow .u64 w f fl fc fz := by
    rcases open_ints Try.underlying30 Try.underlying29 (by kernel_rfl) h5 with ⟨hcs, _⟩ | ⟨x, l, c, zs, hcs, _, hl, hm, hz, _, hcell, hwz⟩
    · simp at hcs
      exact ⟨none, 0, 0, [], hcs, .inl ⟨rfl, rfl, rfl, rfl⟩⟩
    · simp at hcs
      exact ⟨some x, l, c, zs, hcs, .inr ⟨x, rfl, hl, hm, by simpa using hz, hcell, hwz⟩⟩
  obtain ⟨f, fl, fc, fz, e5, hfirst⟩ := h5'
  simp at e0 e1 e2 e4
  refine ⟨⟨x, y, z, a, cap, acts, sn, f, fl, fc, fz⟩, ?_, w0, w1, w2, hacts, hsn, hfirst⟩
  simp only [caseA, e0, e1, e2, e3, e4, e5]
end

end Go.Proofs.Ytdbannnbbngckaa
