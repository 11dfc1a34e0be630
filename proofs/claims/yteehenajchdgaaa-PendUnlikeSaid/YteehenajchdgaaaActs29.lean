/- The acts that came in: what is done, of whom, and a reading. -/
import Derived.Test.YteehenajchdgaaaChecked
import Derived.Test.YteehenajchdgaaaRecs
namespace Go.Proofs.Yteehenajchdgaaa
open Go.ChangeShapes Go.WideShapes Go.Deep Go.RowKit

/-- An act: its kind, an upstream, a reading. -/
structure ActT where
  k : Nat
  u : Int
  n : Int

def ActT.ok (a : ActT) : Prop := a.k < 256 ∧ (-9223372036854775808 ≤ a.u ∧ a.u ≤ 9223372036854775807) ∧ (-9223372036854775808 ≤ a.n ∧ a.n ≤ 9223372036854775807)

/-- A slice of acts, as a list. -/
def IsActs (w : World) (a : Option Addr) (acts : List ActT) : Prop :=
  acts.length ≤ maxLen ∧ ∀ i (h : i < acts.length), ∃ b o, a = some ⟨b, o, none⟩ ∧ b < w.heap.size ∧ w.cell? ⟨b, o + i * 3, none⟩ = some (.int .u8 (acts[i].k : Nat)) ∧
    w.cell? ⟨b, o + i * 3 + 1, none⟩ = some (.int .i64 acts[i].u) ∧ w.cell? ⟨b, o + i * 3 + 2, none⟩ = some (.int .i64 acts[i].n) ∧ acts[i].ok

theorem IsActs.chg {w w' : World} {a : Option Addr} {acts : List ActT} (h : IsActs w a acts) (hc : Chg [] w w') : IsActs w' a acts := by
  refine ⟨h.1, fun i hi => ?_⟩
  obtain ⟨b, o, h1, h2, h3, h4, h5, h6⟩ := h.2 i hi
  exact ⟨b, o, h1, Nat.lt_of_lt_of_le h2 hc.size, hc.cell h3 (by simp), hc.cell h4 (by simp), hc.cell h5 (by simp), h6⟩

theorem isActs_nil (w : World) : IsActs w none [] := ⟨Nat.zero_le _, fun i hi => absurd hi (by simp)⟩

theorem nat_u8 {n : Int} (h : (Lit.int .u8 n).wf = true) : 0 ≤ n ∧ n < 256 := by
  simp [Lit.wf, IntKind.min, IntKind.max, IntKind.signed, IntKind.bits] at h
  omega
theorem int_i64 {n : Int} (h : (Lit.int .i64 n).wf = true) : -9223372036854775808 ≤ n ∧ n ≤ 9223372036854775807 := by
  simp [Lit.wf, IntKind.min, IntKind.max, IntKind.signed, IntKind.bits] at h
  omega

theorem acts_trod {H : Type} {enc : TypeId × Value → H} {w : World} {base : Nat} {spare : Nat → Bool} {held : Bool} {v : Value} {d : DataW H} {p : List MemPlace}
    (hv : ∃ a len cap, v = .slice a len cap) (h : DataW.Trod enc Try.prog w base spare held 24 v d p) :
    ∃ a cap acts, v = .slice a acts.length cap ∧ IsActs w a acts := by
  obtain ⟨a, len, cap, rfl, hm, _, hx⟩ := recs_trod Try.underlying24 Try.underlying33 (by
    intro j f hj
    match j with
    | 0 => simp at hj; subst hj; exact ⟨rfl, by kernel_rfl⟩
    | 1 => simp at hj; subst hj; exact ⟨rfl, by kernel_rfl⟩
    | 2 => simp at hj; subst hj; exact ⟨rfl, by kernel_rfl⟩
    | j + 3 => simp at hj) (by kernel_rfl) (by decide) hv h
  have key : ∀ i, i < len → ∃ b o n m q, a = some ⟨b, o, none⟩ ∧ b < w.heap.size ∧ w.cell? ⟨b, o + i * 3, none⟩ = some (.int .u8 n) ∧ w.cell? ⟨b, o + i * 3 + 1, none⟩ = some (.int .i64 m) ∧ w.cell? ⟨b, o + i * 3 + 2, none⟩ = some (.int .i64 q) ∧ (0 ≤ n ∧ n < 256) ∧ (-9223372036854775808 ≤ m ∧ m ≤ 9223372036854775807) ∧ (-9223372036854775808 ≤ q ∧ q ≤ 9223372036854775807) := by
    intro i hi
    obtain ⟨b, o, ha, hb, hf⟩ := hx i hi
    obtain ⟨u0, n0, y0, hc0, ht0⟩ := hf 0 _ rfl
    obtain ⟨u1, n1, y1, hc1, ht1⟩ := hf 1 _ rfl
    obtain ⟨u2, n2, y2, hc2, ht2⟩ := hf 2 _ rfl
    obtain ⟨n, e0, _, wn⟩ := DataW.trod_int Try.underlying5 ht0
    obtain ⟨m, e1, _, wm⟩ := DataW.trod_int Try.underlying3 ht1
    obtain ⟨q, e2, _, wq⟩ := DataW.trod_int Try.underlying3 ht2
    simp at e0 e1 e2
    subst e0; subst e1; subst e2
    exact ⟨b, o, n, m, q, ha, hb, hc0, by rw [Nat.add_assoc]; exact hc1, by rw [Nat.add_assoc]; exact hc2, nat_u8 wn, int_i64 wm, int_i64 wq⟩
  refine ⟨a, cap, (List.range len).map fun i => ⟨(numAt w (blkOf a) (offOf a + i * 3)).toNat, numAt w (blkOf a) (offOf a + i * 3 + 1), numAt w (blkOf a) (offOf a + i * 3 + 2)⟩, by simp, by simpa using hm, ?_⟩
  intro i hi
  simp at hi
  obtain ⟨b, o, n, m, q, ha, hb, hc0, hc1, hc2, hn, hmm, hq⟩ := key i hi
  have hB : blkOf a = b := by rw [ha]; rfl
  have hO : offOf a = o := by rw [ha]; rfl
  simp only [List.getElem_map, List.getElem_range, hB, hO, numAt_of hc0, numAt_of hc1, numAt_of hc2]
  refine ⟨b, o, ha, hb, ?_, hc1, hc2, by show n.toNat < 256; omega, hmm, hq⟩
  rw [hc0]
  congr 2
  omega

theorem open_acts {H : Type} {enc : TypeId × Value → H} {w : World} {r : Reach} {b0 base : Nat} {spare : Nat → Bool} {held : Bool} {v : Value} {d : DataW H} {p : List MemPlace}
    (hv : Value.okWide Try.prog w r b0 24 v) (h : DataW.Trod enc Try.prog w base spare held 24 v d p) :
    ∃ a cap acts, v = .slice a acts.length cap ∧ IsActs w a acts :=
  acts_trod (okWide_slice Try.underlying24 hv) h

end Go.Proofs.Yteehenajchdgaaa
