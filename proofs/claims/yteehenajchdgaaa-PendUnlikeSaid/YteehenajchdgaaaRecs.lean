/- A slice of structs that came in, field by field: each field of each element lies in a cell that reads as the field's type. -/
import Derived.Deep.Slices
import Derived.OpenShut
import Derived.Test.YteehenajchdgaaaMem
namespace Go.Proofs.Yteehenajchdgaaa
open Go.ChangeShapes Go.WideShapes Go.Deep Go.RowKit

theorem add_flat (b o i : Nat) : (⟨b, o, none⟩ : Addr).add i = ⟨b, o + i, none⟩ := by unfold Addr.add; split <;> simp_all
theorem block_add (p : Addr) (i : Nat) : (p.add i).block = p.block := by unfold Addr.add; split <;> rfl
theorem no_spot {w : World} {x : Addr} {v : Value} (h : w.cell? x = some v) : x.spot = none := by
  obtain ⟨b, o, s⟩ := x
  cases s with
  | none => rfl
  | some s =>
    exfalso
    unfold World.cell? at h
    split at h <;> simp at h

section
variable {H : Type} {enc : TypeId × Value → H} {P : Program} {w : World} {base : Nat} {spare : Nat → Bool} {held : Bool}

theorem recs_trod {t e : TypeId} {fs : Array Field} {v : Value} {d : DataW H} {p : List MemPlace} (ht : P.underlying t = some (.slice e)) (he : P.underlying e = some (.struct fs))
    (hone : ∀ (j : Nat) (f : Field), fs[j]? = some f → f.offset = j ∧ P.cellsOf f.type = 1) (hC : P.cellsOf e = fs.size) (hpos : 0 < fs.size)
    (hv : ∃ a len cap, v = .slice a len cap) (h : DataW.Trod enc P w base spare held t v d p) :
    ∃ a len cap, v = .slice a len cap ∧ len ≤ maxLen ∧ (a = none → cap = 0) ∧
      ∀ i, i < len → ∃ b o, a = some ⟨b, o, none⟩ ∧ b < w.heap.size ∧
        ∀ (j : Nat) (f : Field), fs[j]? = some f → ∃ u n y, w.cell? ⟨b, o + (i * fs.size + j), none⟩ = some u ∧ DataW.trod enc P w base spare held n f.type [u] = some y := by
  obtain ⟨a, len, cap, rfl⟩ := hv
  obtain ⟨fuel, hf⟩ := h
  refine ⟨a, len, cap, rfl, ?_⟩
  rcases open_slice ht hf with ⟨hcs, _⟩ | ⟨x, len', cap', m, n, D, Pl, hcs, _, hl, hm, hmm, _, hx⟩
  · simp [Value.cells] at hcs
    obtain ⟨rfl, rfl, rfl⟩ := hcs
    exact ⟨Nat.zero_le _, fun _ => rfl, fun i hi => absurd hi (by simp)⟩
  · simp [Value.cells] at hcs
    obtain ⟨rfl, rfl, rfl⟩ := hcs
    refine ⟨Nat.le_trans hl hm, fun h => by simp at h, fun i hi => ?_⟩
    have him : i < m := by rw [hmm]; split <;> omega
    have key : ∀ i, i < m → ∀ (j : Nat) (f : Field), fs[j]? = some f → ∃ u n y, w.cell? (x.add (i * fs.size + j)) = some u ∧ DataW.trod enc P w base spare held n f.type [u] = some y := by
      intro i hi j f hj
      obtain ⟨cs, hc, htr⟩ := hx i hi
      rw [hC] at hc
      obtain ⟨ys, n', _, _, hlen, _, hg⟩ := DataW.trod_struct he htr
      obtain ⟨_, hcl, hat⟩ := World.cells?_some hc
      obtain ⟨ho, hk⟩ := hone j f hj
      have hjl : j < fs.size := (Array.getElem?_eq_some_iff.1 hj).1
      have hjc : j < cs.length := by omega
      have h1 := hg j f hj
      have h2 := hat j hjl
      rw [ho, hk, List.drop_eq_getElem_cons hjc, List.take_succ_cons, List.take_zero] at h1
      rw [List.getElem?_eq_getElem hjc, Go.Deep.add_add] at h2
      have hjy : j < ys.length := by omega
      rw [List.getElem?_eq_getElem hjy] at h1
      exact ⟨_, _, _, h2, h1⟩
    obtain ⟨f0, hf0⟩ : ∃ f0, fs[0]? = some f0 := ⟨fs[0], by simp [hpos]⟩
    obtain ⟨u0, n0, y0, hc0, _⟩ := key i him 0 f0 hf0
    have hsp : x.spot = none := by
      have him0 : 0 < m := by omega
      obtain ⟨u1, n1, y1, hc1, _⟩ := key 0 him0 0 f0 hf0
      have := no_spot hc1
      simpa [Addr.add] using this
    have hxe : x = ⟨x.block, x.off, none⟩ := by rw [← hsp]
    refine ⟨x.block, x.off, by rw [← hxe], ?_, fun j f hj => ?_⟩
    · have := World.block_lt_of_cell? _ _ hc0
      rwa [block_add] at this
    · obtain ⟨u, n, y, hc, hy⟩ := key i him j f hj
      refine ⟨u, n, y, ?_, hy⟩
      have e2 := add_flat x.block x.off (i * fs.size + j)
      rw [← hxe] at e2
      rw [← e2]; exact hc
theorem recs_open {r : Reach} {b0 : Nat} {t e : TypeId} {fs : Array Field} {v : Value} {d : DataW H} {p : List MemPlace} (ht : P.underlying t = some (.slice e)) (he : P.underlying e = some (.struct fs))
    (hone : ∀ (j : Nat) (f : Field), fs[j]? = some f → f.offset = j ∧ P.cellsOf f.type = 1) (hC : P.cellsOf e = fs.size) (hpos : 0 < fs.size)
    (hv : Value.okWide P w r b0 t v) (h : DataW.Trod enc P w base spare held t v d p) :
    ∃ a len cap, v = .slice a len cap ∧ len ≤ maxLen ∧ (a = none → cap = 0) ∧
      ∀ i, i < len → ∃ b o, a = some ⟨b, o, none⟩ ∧ b < w.heap.size ∧
        ∀ (j : Nat) (f : Field), fs[j]? = some f → ∃ u n y, w.cell? ⟨b, o + (i * fs.size + j), none⟩ = some u ∧ DataW.trod enc P w base spare held n f.type [u] = some y :=
  recs_trod ht he hone hC hpos (okWide_slice ht hv) h
end

def blkOf : Option Addr → Nat | some x => x.block | none => 0
def offOf : Option Addr → Nat | some x => x.off | none => 0

/-- The number in a cell. -/
def numAt (w : World) (b o : Nat) : Int := match w.cell? ⟨b, o, none⟩ with | some (.int _ n) => n | _ => 0
theorem numAt_of {w : World} {b o : Nat} {k : IntKind} {n : Int} (h : w.cell? ⟨b, o, none⟩ = some (.int k n)) : numAt w b o = n := by
  unfold numAt; rw [h]

end Go.Proofs.Yteehenajchdgaaa
